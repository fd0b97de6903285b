/- A part of the proof. -/
import Derived.Test.YtpkadoocdgdcfaaGreatDoorKt5
set_option linter.all false
section
open Go Go.Ab Go.Ab.W
abbrev XJ:=eN .u64
abbrev XK:XO->XB WJ:=eP XJ (eP XJ (eP XJ (eP XJ (eP XJ (eP XJ (eP XJ XJ))))))
abbrev XL:XN->XB WJ:=eP XJ (eP XJ (eP XJ (eP XJ (eP XJ (eP XJ (eP XJ (eP XJ (eP XJ (eP XJ (eP XJ (eP XJ (eP XJ (eP XJ (eP XJ XJ))))))))))))))
abbrev XM(x:Nat):WJ:=.int .u64 (x:Int)
end
namespace Go.Proofs.YtpkadoocdgdcfaaGreatDoor
section
open Go Go.Ab Go.Ab.W
def wE(n:Nat)(l1:XB (XB XN)):(XB (XB XN)×Int)->XA ((XB (XB XN)×Int) ⊕(XB (XB XN))):=fun(l33,v36) =>
br (decide (v36<((Xl l1 4).length:Int))) (
gd (bB v36 ((Xl l1 4).length)) (
ob ((Xl l1 4)[v36.toNat]?) fun l67 =>
gd (okB 0 (mi (l67.length:Int) (4:Int)) l67.length) (
gd (lim (l33++([(Xl l67 4)]:XB (XB XN))).length) (
some (.inl ((l33++([(Xl l67 4)]:XB (XB XN))),WQ (v36+1))))))) (
some (.inr l33))
def Qn(n:Nat)(l1:XB (XB XN)):XA (XB (XB XN)) :=
gd (okB 0 (mi (l1.length:Int) (4:Int)) l1.length) (
ob (
bN (wE n l1) n (([]:XB (XB XN)),0)) fun l60 =>
some l60)
def wR(n:Nat)(l19:XB (XB XN)):(XB (XB XN)×Int)->XA ((XB (XB XN)×Int) ⊕(XB (XB XN))):=fun(l50,v53) =>
br (decide (v53<(l19.length:Int))) (
gd (bB v53 l19.length) (
ob (l19[v53.toNat]?) fun l85 =>
ob (SE n l85) fun l90 =>
gd (lim (l50++([l90]:XB (XB XN))).length) (
some (.inl ((l50++([l90]:XB (XB XN))),WQ (v53+1)))))) (
some (.inr l50))
def Hu(n:Nat)(l3:XB XN):(XB XN×Int×Int)->XA ((XB XN×Int×Int) ⊕(XB XN)):=fun(l2,v0,v1) =>
br (decide (v0<v1)) (
gd (bB v1 l3.length) (
ob (l2[v1.toNat]?) fun(x3,x4,x5,x6,x7,x8,x9,x10,x11,x12,x14,x15,x16,x17,x18,x19) =>
gd (bB v0 l3.length) (
ob (l2[v0.toNat]?) fun(x20,x21,x22,x23,x24,x25,x26,x27,x28,x29,x30,x31,x32,x33,x34,x35) =>
gd (bB v0 l3.length) (
gd (bB v1 l3.length) (
ob ((l2.set v0.toNat (x3,x4,x5,x6,x7,x8,x9,x10,x11,x12,x14,x15,x16,x17,x18,x19))[v1.toNat]?) fun(x36,x37,x38,x39,x40,x41,x42,x43,x44,x45,x46,x47,x48,x49,x50,x51) =>
some (.inl (((l2.set v0.toNat (x3,x4,x5,x6,x7,x8,x9,x10,x11,x12,x14,x15,x16,x17,x18,x19)).set v1.toNat (x20,x21,x22,x23,x24,x25,x26,x27,x28,x29,x30,x31,x32,x33,x34,x35)),WQ (v0+1),WQ (v1-1)))))))) (
some (.inr l2))
def Qi(n:Nat)(x1:Nat)(x2:Nat)(x3:Nat)(x4:Nat)(x5:Nat)(x6:Nat)(x7:Nat)(x8:Nat)(x9:Nat)(x10:Nat)(x11:Nat)(x12:Nat)(x13:Nat)(x14:Nat)(x15:Nat)(x16:Nat)(x17:Nat)(x18:Nat)(l9:XB (XB XN)):XA (XB (XB XN)) :=
ob (
bN (wR n l9) n (([]:XB (XB XN)),0)) fun l2 =>
gd (decide ((l2.length:Int)≠0)) (
ob (
br (decide (x1%5=0)) (
gd (bB (Int.tmod (WQ ((x2:Nat):Int)) (l2.length:Int)) l2.length) (
ob (l2[(Int.tmod (WQ ((x2:Nat):Int)) (l2.length:Int)).toNat]?) fun l3 =>
gd (decide ((l2.length:Int)≠0)) (
ob (some (Int.tmod (WQ ((uw .u8 (x2/8):Nat):Int)) (l2.length:Int))) fun y2 =>
gd (bB y2 l3.length) (
ob (l3[y2.toNat]?) fun(x19,x20,x21,x22,x23,x24,x25,x26,x27,x28,x29,x30,x31,x32,x33,x34) =>
some (l2.length,(l2.set ((Int.tmod (WQ ((x2:Nat):Int)) (l2.length:Int)).toNat) (l3.set y2.toNat (x3,x4,x5,x6,x7,x8,x9,x10,x11,x12,x13,x14,x15,x16,x17,x18)))))))) (
br (decide (x1%5=1)) (
gd (bB (Int.tmod (WQ ((x2:Nat):Int)) (l2.length:Int)) l2.length) (
ob (l2[(Int.tmod (WQ ((x2:Nat):Int)) (l2.length:Int)).toNat]?) fun l8 =>
gd (lim (l8++[(x3,x4,x5,x6,x7,x8,x9,x10,x11,x12,x13,x14,x15,x16,x17,x18)]).length) (
gd (bB (Int.tmod (WQ ((x2:Nat):Int)) (l2.length:Int)) l2.length) (
some (l2.length,(l2.set ((Int.tmod (WQ ((x2:Nat):Int)) (l2.length:Int)).toNat) (l8++[(x3,x4,x5,x6,x7,x8,x9,x10,x11,x12,x13,x14,x15,x16,x17,x18)]))))))) (
br (decide (x1%5=2)) (
gd (bB 0 l2.length) (
ob (l2[WR]?) fun l4 =>
gd (lim (l2++([l4]:XB (XB XN))).length) (
some ((l2++([l4]:XB (XB XN))).length,(l2++([l4]:XB (XB XN))))))) (
br (decide (x1%5=3)) (
gd (bB (Int.tmod (WQ ((x2:Nat):Int)) (l2.length:Int)) l2.length) (
ob (l2[(Int.tmod (WQ ((x2:Nat):Int)) (l2.length:Int)).toNat]?) fun l7 =>
ob (
ob (
bN (Hu n l7) n (l7,0,WQ ((l7.length:Int)-1))) fun l10 =>
some l10) fun l11 =>
some (l2.length,(l2.set ((Int.tmod (WQ ((x2:Nat):Int)) (l2.length:Int)).toNat) l11)))) (
some (l2.length,l2)))))) fun(n2,l12) =>
some l12)
def Cz(n:Nat)(x1:Bool)(l2:XB (Int))(x7:Bool)(l8:XB (Int))(x13:Bool)(l14:XB (Int))(x19:Bool)(l20:XB (Int)):XA (Bool×XB Int×Bool×XB Int) :=
ob (Cg n x1 l2 x13 l14) fun(r29,l30) =>
ob (Cg n x7 l8 x19 l20) fun(r35,l36) =>
ob (zP n r29 l30 r35 l36) fun(r41,l42,r46,l47) =>
some (r41,l42,r46,l47)
def pZ(n:Nat)(l1:XB (Bool×XB Int×Bool×XB Int)):(XB XN×Int)->XA ((XB XN×Int) ⊕(Int ⊕(XB XN))):=fun(l2,v0) =>
br (decide (v0<(l1.length:Int))) (
gd (bB v0 l1.length) (
ob (l1[v0.toNat]?) fun(x3,l3,x4,l4) =>
ob (Cd n x3 l3 x4 l4) fun(r0,r1,r3,r4,r5,r6,r7,r8,r9,r10,r11,r12,r13,r14,r15,r16,r17) =>
br (!decide (r17=0)) (
some (.inr (.inl r17))) (
gd (lim (l2++[(r0,r1,r3,r4,r5,r6,r7,r8,r9,r10,r11,r12,r13,r14,r15,r16)]).length) (
some (.inl ((l2++[(r0,r1,r3,r4,r5,r6,r7,r8,r9,r10,r11,r12,r13,r14,r15,r16)]),WQ (v0+1))))))) (
some (.inr (.inr l2)))
def Ch(n:Nat)(l1:XB (Bool×XB Int×Bool×XB Int)):XA (XB XN×Int) :=
ob (α:=(Int) ⊕(XB XN)) (
bN (pZ n l1) n (([]:XB XN),0)) fun r0=>match r0 with
| .inl v0 =>
some ([],v0)
| .inr l2 =>
some (l2,0)
set_option exponentiation.threshold 3000
def ft(P:WI):∀N,(∀i,i<N->P i)\/∃j,j<N/\¬P j/\∀i,i<j->P i
 | 0=>.inl fun i hi=>Uy hi (by omega)
 | N+1=>by
  rcases ft P N with h|⟨j,h1,h2,h3⟩
  rcases Classical.em (P N) with hN|hN
  exact .inl fun i hi=>if c:i=N then c▸hN else h i (by omega)
  exact .inr ⟨N,by omega,hN,h⟩
  exact .inr ⟨j,by omega,h2,h3⟩
structure KQ(K:XB (XB Sh))(W:Nat->Nat->Nat)(P N:Nat):Prop where
 len:K.length=N
 at_:∀i,i<N->∃row,K[i]? = some row/\VQ row (W i) P N
 sum:∀i,i<N->sm (W i) N=P
 pos:P≠0
 n1:N<=1000
def VQ.scale{L:XB Sh}{v:Nat->Nat}{T N c:Nat}(h:VQ L v T N)(hT:T≠0)(hc:c≠0):VQ L (fun i=>v i*c) (T*c) N :=
 ⟨h.len,fun i hi=>by
  obtain⟨x,e,q⟩:=h.at_ i hi;exact⟨x,e,q.same hT (UD hT hc) (by simp only[Uo,Un])⟩⟩
def Pj(row:XB Sh)(N M:Nat):Prop:=∃v T,VQ row v T N/\T≠0/\T<=M/\sm v N=T
def DG{K:XB (XB Sh)}{N M:Nat}:∀k,(∀i,i<k->∃row,K[i]? = some row/\Pj row N M)->∃(W:Nat->Nat->Nat) (P:Nat),(∀i,i<k->∃row,K[i]? = some row/\VQ row (W i) P N/\sm (W i) N=P)/\P≠0/\P<=M ^ k
 | 0,_=>⟨fun _ _=>0,1,fun i hi=>Uy hi (by omega),by decide,by rw[VV]; exact Ua _⟩
 | k+1,h=>by
  obtain⟨W,P,h1,h2,h3⟩:=DG k fun i hi=>h i (by omega)
  obtain⟨row,e,v,T,g1,g2,g3,g4⟩:=h k (by omega)
  refine⟨fun i j=>if i<k then W i j*T else v j*P,P*T,fun i hi=>?_,UD h2 g2,by rw[UW]; exact UO h3 g3⟩
  by_cases c:i<k
  obtain⟨r,e1,e2,e3⟩:=h1 i c;have:(fun j=>if i<k then W i j*T else v j*P)=fun j=>W i j*T:=by funext j; rw[Ui c]
  refine⟨r,e1,?_,?_⟩
  show VQ r (fun j=>if i<k then W i j*T else v j*P) (P*T) N
  rw[this];exact e2.scale h2 g2
  show sm (fun j=>if i<k then W i j*T else v j*P) N=P*T
  rw[this,BP,e3]
  have hik:i=k:=by omega
  subst hik;have:(fun j=>if i<i then W i j*T else v j*P)=fun j=>v j*P:=by funext j; rw[Uk c]
  refine⟨row,e,?_,?_⟩
  show VQ row (fun j=>if i<i then W i j*T else v j*P) (P*T) N
  rw[this,Uo P T];exact g1.scale g2 h2
  show sm (fun j=>if i<i then W i j*T else v j*P) N=P*T
  rw[this,BP,g4,Uo]
def Sw{T h:Nat}(hT:T≠0):(bo T h).1≠0↔h≠0:=by
 obtain⟨h1,_,h3,_,h5⟩:=ic (h:=h) hT;constructor
 intro e e0; subst e0; omega
 intro e e0;rw[e0,VC] at h5;rcases Nat.mul_eq_zero.1 h5.symm with h|h
 exact e h
 exact h3 h
abbrev Rt:=XP
abbrev Rr:=Bool×XB Int×Bool×XB Int
structure RQ(L:XB Rt)(v:Nat->Nat)(T N:Nat):Prop where
 len:L.length=N
 at_:∀i,i<N->∃l k,L[i]? = some (false,l,false,k)/\Q l k (v i) T
structure RR(L:XB Rr)(v:Nat->Nat)(T N:Nat):Prop where
 len:L.length=N
 at_:∀i,i<N->L[i]? = some (RL (v i) T)
section
variable{n B:Nat}
def Om(hB:Bd B n)(hb:Mx ^ 8<=B){K:XB (XB Sh)}(hN:K.length<=5){i:Nat}{row:XB Sh}(e:K[i]? = some row)(hw:WL row)(hr:row.length<=5) :
  (ld n K (i:Int)=some (.inl ((i+1:Nat):Int))/\k7 n K (i:Int)=some (.inl ((i+1:Nat):Int))/\Pj row K.length (Mx ^ K.length))\/(ld n K (i:Int)=some (.inr (.inl ()))/\k7 n K (i:Int)=some (.inr (.inl ()))):=by
 have hi:i<K.length:=(Uq.1 e).1
 by_cases hl:row.length=K.length
 rcases JF hB hb hw hr with⟨v,T,g1,g2,g3,g4,g5,g6⟩|⟨g1,g2,g3⟩
 rw[hl] at g1 g3 g4 g5
 by_cases c:sm v K.length=T
 refine .inl ⟨?_,?_,v,T,g1,g2,g3,c⟩
 unfold ld;rw[Xm,ak hi,ay,T5,e,ab,hl,Ud rfl,Uj,bK,g4,ab,Ud c,Uj,ab,bK,Xo]
 unfold k7;rw[Xm,ak hi,ay,T5,e,ab,hl,Ud rfl,Uj,bK,ay,g6,ab,Uj,bK,ay,g5,ab,Ud c,Uj,ab,bK,Xo]
 refine .inr ⟨?_,?_⟩
 unfold ld;rw[Xm,ak hi,ay,T5,e,ab,hl,Ud rfl,Uj,bK,g4,ab,Um c,Uw,ab,cx]
 unfold k7;rw[Xm,ak hi,ay,T5,e,ab,hl,Ud rfl,Uj,bK,ay,g6,ab,Uj,bK,ay,g5,ab,Um c,Uw,ab,cx]
 refine .inr ⟨?_,?_⟩
 unfold ld;rw[Xm,ak hi,ay,T5,e,ab,hl,Ud rfl,Uj,bK,g1,ab,Uw,ab,cx]
 unfold k7;rw[Xm,ak hi,ay,T5,e,ab,hl,Ud rfl,Uj,bK,ay]
 rcases El (n:=n) (hB.n6 hb) hw (by omega) with⟨_,_,o⟩|⟨_,_,o⟩
 rw[o,ab,Uj,bK,ay,g2 o,ab,Uw,ab,cx]
 rw[o,ab,Uw,cx,ab,cx]
 refine .inr ⟨?_,?_⟩
 unfold ld;rw[Xm,ak hi,ay,T5,e,ab,Um (by omega),Uw,cx,ab,cx]
 unfold k7;rw[Xm,ak hi,ay,T5,e,ab,Um (by omega),Uw,cx,ab,cx]
def ot(hB:Bd B n)(hb:Mx ^ 8<=B){K:XB (XB Sh)}(hK:∀row,row∈K->WL row/\row.length<=5)(hN:K.length<=5) :
  (Lo n K=some 330/\M4 n K=some false)\/(Lo n K=some 0/\M4 n K=some true/\1<=K.length/\(∀row,row∈K->row.length=K.length)/\∃W P,KQ K W P K.length/\P<=(Mx ^ K.length) ^ K.length):=by
 have hn:=hB.ns;unfold Lo M4
 by_cases h0:K.length<1
 rw[Xm]; exact .inl ⟨rfl,rfl⟩
 rw[Xn,Um (by omega),ab,ab,bK,bK]
 rcases ft (fun i=>ld n K (i:Int)=some (.inl ((i+1:Nat):Int))/\k7 n K (i:Int)=some (.inl ((i+1:Nat):Int))/\∃row,K[i]? = some row/\Pj row K.length (Mx ^ K.length)) K.length with h|⟨j,h1,h2,h3⟩
 obtain⟨_,g1,_⟩:=aS (body:=ld n K) K.length (fun(_:XC) (v:Int)=>v) (fun _=>(.inr ():XC⊕XC)) (fun _ _=>True) (fun s i hi _=>⟨(),(h i hi).1,trivial⟩) (fun s _=>by
  unfold ld;rw[Xn]) (n:=n) (s:=()) trivial (by omega)
 obtain⟨_,g2,_⟩:=aS (body:=k7 n K) K.length (fun(_:XC) (v:Int)=>v) (fun _=>(.inr ():XC⊕XC)) (fun _ _=>True) (fun s i hi _=>⟨(),(h i hi).2.1,trivial⟩) (fun s _=>by
  unfold k7;rw[Xn]) (n:=n) (s:=()) trivial (by omega)
 rw[g1,g2];obtain⟨W,P,q1,q2,q3⟩:=DG (K:=K) (N:=K.length) (M:=Mx ^ K.length) K.length fun i hi=>(h i hi).2.2;refine .inr ⟨rfl,rfl,by omega,fun row hr=>?_,W,P,⟨rfl,fun i hi=>?_,fun i hi=>?_,q2,by omega⟩,q3⟩
 obtain⟨i,hi,rfl⟩:=List.mem_iff_getElem.1 hr;obtain⟨r,e1,e2,_⟩:=q1 i hi;rw[T6 hi] at e1;cases e1;exact e2.len
 obtain⟨r,e1,e2,_⟩:=q1 i hi; exact⟨r,e1,e2⟩
 obtain⟨r,_,_,e3⟩:=q1 i hi; exact e3
 have hj:K[j]? = some K[j]:=T6 h1;obtain⟨w1,w2⟩:=hK _ (V0 h1);rcases Om hB hb hN hj w1 w2 with⟨a1,a2,a3⟩|⟨a1,a2⟩
 exact Uy ⟨a1,a2,_,hj,a3⟩ h2
 obtain⟨_,g1,_⟩:=aS (body:=ld n K) j (fun(_:XC) (v:Int)=>v) (fun _=>(.inl ():XC⊕XC)) (fun _ _=>True) (fun s i hi _=>⟨(),(h3 i hi).1,trivial⟩) (fun s _=>a1) (n:=n) (s:=()) trivial (by omega)
 obtain⟨_,g2,_⟩:=aS (body:=k7 n K) j (fun(_:XC) (v:Int)=>v) (fun _=>(.inl ():XC⊕XC)) (fun _ _=>True) (fun s i hi _=>⟨(),(h3 i hi).2.1,trivial⟩) (fun s _=>a2) (n:=n) (s:=()) trivial (by omega)
 rw[g1,g2];exact .inl ⟨rfl,rfl⟩
def tV(hB:Bd B n){L:XB Rt}{R:XB Rr}{v:Nat->Nat}{T N:Nat}(h:RQ L v T N)(h':RR R v T N)(hT:T≠0)(hTb:T<=B)(hv:∀i,i<N->v i<=B)(hN:N<=1000):∃l e,BQ n L=some (l,e)/\Ch n R=some (l,e)/\l.length<=N:=by
 have hn:=hB.ns;have hd:=hB.dq;have hsq:=hB.sq;have lp:∀(k i m:Nat) (acc:XB Sh),i+k=N->acc.length<=i->k<m->∃r,bN (qf n L) m (acc,(i:Int))=some r/\bN (pZ n R) m (acc,(i:Int))=some r/\∀l,r=.inr l->l.length<=N:=by
  intro k
  induction k with
  | zero =>
   intro i m acc h1 h2 h3;obtain⟨m,rfl⟩:∃m',m=m'+1:=⟨m-1,by omega⟩
   refine⟨.inr acc,bI ?_,bI ?_,fun l hl=>by cases hl; omega⟩
   unfold qf
   dsimp only
   rw[h.len,Xn]
   unfold pZ
   dsimp only
   rw[h'.len,Xn]
  | succ k ih =>
   intro i m acc h1 h2 h3;obtain⟨m,rfl⟩:∃m',m=m'+1:=⟨m-1,by omega⟩
   have hi:i<N:=by omega
   obtain⟨l,p,e1,q⟩:=h.at_ i hi;have e2:=h'.at_ i hi;obtain⟨b1,b2,_⟩:=bV (a:=v i) hT;have:=hv i hi;obtain⟨t,t1,t2⟩:=GJ (n:=n) (by omega) q.num q.den (by omega) (by omega)
   obtain⟨x1,x2,x3,x4,x5,x6,x7,x8,y1,y2,y3,y4,y5,y6,y7,y8,z⟩:=t
   by_cases c:z=0
   have hlim:lim (acc++([(x1,x2,x3,x4,x5,x6,x7,x8,y1,y2,y3,y4,y5,y6,y7,y8)]:XB Sh)).length=true:=gW (by rw[Uf,UB]; omega)
   obtain⟨r,r1,r2,r3⟩:=ih (i+1) m (acc++[(x1,x2,x3,x4,x5,x6,x7,x8,y1,y2,y3,y4,y5,y6,y7,y8)]) (by omega) (by rw[Uf,UB]; omega) (by omega)
   refine⟨r,?_,?_,r3⟩
   rw[bO (s':=(acc++[(x1,x2,x3,x4,x5,x6,x7,x8,y1,y2,y3,y4,y5,y6,y7,y8)],((i+1:Nat):Int)))]
   exact r1
   unfold qf
   dsimp only
   rw[h.len,Xm,ak hi,ay,T5,e1,ab]
   dsimp only
   rw[t1,ab]
   dsimp only
   rw[Ud c,Uj,bK,hlim,ay,Xo]
   rw[bO (s':=(acc++[(x1,x2,x3,x4,x5,x6,x7,x8,y1,y2,y3,y4,y5,y6,y7,y8)],((i+1:Nat):Int)))]
   exact r2
   unfold pZ
   dsimp only
   rw[h'.len,Xm,ak hi,ay,T5,e2,ab]
   unfold RL
   dsimp only
   rw[t2,ab]
   dsimp only
   rw[Ud c,Uj,bK,hlim,ay,Xo]
   refine⟨.inl z,bI ?_,bI ?_,fun l hl=>by cases hl⟩
   unfold qf
   dsimp only
   rw[h.len,Xm,ak hi,ay,T5,e1,ab]
   dsimp only
   rw[t1,ab]
   dsimp only
   rw[Um c,Uw,cx]
   unfold pZ
   dsimp only
   rw[h'.len,Xm,ak hi,ay,T5,e2,ab]
   unfold RL
   dsimp only
   rw[t2,ab]
   dsimp only
   rw[Um c,Uw,cx]
 obtain⟨r,r1,r2,r3⟩:=lp N 0 n [] (by omega) (by decide) (by omega)
 unfold BQ Ch;rw[show(0:Int)=((0:Nat):Int) from rfl,r1,r2]
 cases r with
 | inl z=>exact⟨[],z,rfl,rfl,VF _⟩
 | inr l=>exact⟨l,0,rfl,rfl,r3 l rfl⟩
end
end
section
open Go Go.Ab Go.Ab.W
def P2(n:Nat)(l1:XB (XB XN)):XA Int :=
ob (M4 n l1) fun r9 =>
br (!r9) (
some 330) (
some 0)
def Ky(n:Nat)(x1:Nat)(x2:Nat)(x3:Nat)(x4:Nat)(x5:Nat)(x6:Nat)(x7:Nat)(x8:Nat)(x9:Nat)(x10:Nat)(x11:Nat)(x12:Nat)(x13:Nat)(x14:Nat)(x15:Nat)(x16:Nat):XA Int :=
ob (Il n x1 x2 x3 x4 x5 x6 x7 x8) fun(r20,l21) =>
ob (Il n x9 x10 x11 x12 x13 x14 x15 x16) fun(r26,l27) =>
ob (Bi n r20 l21 r26 l27) fun r32 =>
some r32
def oI(n:Nat)(l1:XB XO)(x5:Int):Int->XA (Int⊕XC⊕XC):=fun v7 =>
br (decide (v7<(l1.length:Int))) (
gd (bB v7 l1.length) (
ob (l1[v7.toNat]?) fun(x38,x39,x40,x41,x42,x43,x44,x45) =>
ob (BY n x5) fun(r48,r49,r50,r51,r52,r53,r54,r55) =>
ob (Ky n x38 x39 x40 x41 x42 x43 x44 x45 r48 r49 r50 r51 r52 r53 r54 r55) fun r57 =>
br (decide (r57<0)) (
some (.inr (.inl ()))) (
some (.inl (WQ (v7+1)))))) (
some (.inr (.inr ())))
def yu(n:Nat)(l1:XB XO)(x5:Int):XA Bool :=
ob (α:=(XC)⊕XC) (
bN (oI n l1 x5) n 0) fun r60=>match r60 with
| .inl _ =>
some true
| .inr _ =>
some false
def qN(n:Nat)(l1:XB XO):(XB (Bool×XB Int×Bool×XB Int)×Int)->XA ((XB (Bool×XB Int×Bool×XB Int)×Int) ⊕(XB (Bool×XB Int×Bool×XB Int))):=fun(l2,v0) =>
br (decide (v0<(l1.length:Int))) (
gd (bB v0 l1.length) (
ob (l1[v0.toNat]?) fun(x3,x4,x5,x6,x7,x8,x9,x10) =>
ob (Il n x3 x4 x5 x6 x7 x8 x9 x10) fun(r0,l3) =>
ob (Kj n 1) fun(r1,l4) =>
gd (lim (l2++([(r0,l3,r1,l4)]:XB (Bool×XB Int×Bool×XB Int))).length) (
some (.inl ((l2++([(r0,l3,r1,l4)]:XB (Bool×XB Int×Bool×XB Int))),WQ (v0+1)))))) (
some (.inr l2))
def CB(n:Nat)(l1:XB XO):XA (XB (Bool×XB Int×Bool×XB Int)) :=
ob (
bN (qN n l1) n (([]:XB (Bool×XB Int×Bool×XB Int)),0)) fun l81 =>
some l81
def nT(n:Nat)(l1:XB (XB XN))(v1:Int)(l2:XB (Bool×XB Int×Bool×XB Int)):Int->XA (Int⊕XC⊕XC):=fun v0 =>
br (decide (v0<(l1.length:Int))) (
gd (bB v1 l2.length) (
ob (l2[v1.toNat]?) fun(x3,l7,x4,l8) =>
gd (bB v1 l1.length) (
ob (l1[v1.toNat]?) fun l3 =>
gd (bB v0 l3.length) (
ob (l3[v0.toNat]?) fun(x5,x6,x7,x8,x9,x10,x11,x12,x14,x15,x16,x17,x18,x19,x20,x21) =>
ob (u6 n x5 x6 x7 x8 x9 x10 x11 x12 x14 x15 x16 x17 x18 x19 x20 x21) fun(r0,l9,r1,l10) =>
ob (Cz n x3 l7 x4 l8 r0 l9 r1 l10) fun(r3,l11,r4,l12) =>
gd (bB v0 l2.length) (
ob (l2[v0.toNat]?) fun(x22,l13,x23,l14) =>
gd (bB v0 l1.length) (
ob (l1[v0.toNat]?) fun l4 =>
gd (bB v1 l4.length) (
ob (l4[v1.toNat]?) fun(x24,x25,x26,x27,x28,x29,x30,x31,x32,x33,x34,x35,x36,x37,x38,x39) =>
ob (u6 n x24 x25 x26 x27 x28 x29 x30 x31 x32 x33 x34 x35 x36 x37 x38 x39) fun(r5,l15,r6,l16) =>
ob (Cz n x22 l13 x23 l14 r5 l15 r6 l16) fun(r7,l17,r8,l18) =>
ob (zx n r3 l11 r4 l12 r7 l17 r8 l18) fun r9 =>
br (!decide (r9=0)) (
some (.inr (.inl ()))) (
some (.inl (WQ (v0+1))))))))))) (
some (.inr (.inr ())))
def pa(n:Nat)(l1:XB (XB XN))(l2:XB (Bool×XB Int×Bool×XB Int)):Int->XA (Int⊕XC⊕XC):=fun v0 =>
br (decide (v0<(l1.length:Int))) (
ob (α:=(XC)⊕XC) (
bN (nT n l1 v0 l2) n 0) fun r0=>match r0 with
| .inl _ =>
some (.inr (.inl ()))
| .inr _ =>
some (.inl (WQ (v0+1)))) (
some (.inr (.inr ())))
def Nl(n:Nat)(l1:XB (XB XN))(l2:XB XO):XA (Bool×Int) :=
ob (M4 n l1) fun r0 =>
br (!r0) (
some (false,330)) (
ob (
br (!decide ((l2.length:Int)=(l1.length:Int))) (
some true) (
ob (yu n l2 0) fun r1 =>
some r1)) fun v0 =>
br (v0) (
some (false,2)) (
ob (CB n l2) fun l3 =>
ob (α:=(XC)⊕XC) (
bN (pa n l1 l3) n 0) fun r3=>match r3 with
| .inl _ =>
some (false,0)
| .inr _ =>
some (true,0)))
def GM(n:Nat)(x1:Bool)(l2:XB (Int))(x7:Bool)(l8:XB (Int))(x13:Bool)(l14:XB (Int))(x19:Bool)(l20:XB (Int)):XA (Bool×XB Int×Bool×XB Int) :=
ob (Cg n x1 l2 x19 l20) fun(r29,l30) =>
ob (Cg n x7 l8 x13 l14) fun(r35,l36) =>
ob (zP n r29 l30 r35 l36) fun(r41,l42,r46,l47) =>
some (r41,l42,r46,l47)
def Mf(n:Nat)(x1:Bool)(l2:XB (Int))(x7:Bool)(l8:XB (Int)):XA (Bool×XB Int×Bool×XB Int) :=
ob (Dl n x1 l2) fun(r16,l17) =>
some (r16,l17,x7,l8)
def I1(n:Nat)(x1:Bool)(l2:XB (Int))(x7:Bool)(l8:XB (Int))(x13:Bool)(l14:XB (Int))(x19:Bool)(l20:XB (Int)):XA (Bool×XB Int×Bool×XB Int) :=
ob (Mf n x13 l14 x19 l20) fun(r29,l30,r34,l35) =>
ob (vk n x1 l2 x7 l8 r29 l30 r34 l35) fun(r40,l41,r45,l46) =>
some (r40,l41,r45,l46)
def wB(n:Nat)(l1:XB (XB XN))(v1:Int)(l2:XB (Bool×XB Int×Bool×XB Int)):(XB (Bool×XB Int×Bool×XB Int)×Bool×XB (Int)×Bool×XB (Int)×Int)->XA ((XB (Bool×XB Int×Bool×XB Int)×Bool×XB (Int)×Bool×XB (Int)×Int) ⊕(XB (Bool×XB Int×Bool×XB Int)×Bool×XB (Int)×Bool×XB (Int))):=fun(l3,v4,l8,v5,l9,v0) =>
br (decide (v0<(l1.length:Int))) (
gd (bB v1 l1.length) (
ob (l1[v1.toNat]?) fun l10 =>
gd (bB v0 l10.length) (
ob (l10[v0.toNat]?) fun(x3,x4,x5,x6,x7,x8,x9,x10,x11,x12,x14,x15,x16,x17,x18,x19) =>
ob (u6 n x3 x4 x5 x6 x7 x8 x9 x10 x11 x12 x14 x15 x16 x17 x18 x19) fun(r0,l11,r1,l12) =>
gd (bB v0 l1.length) (
ob (l1[v0.toNat]?) fun l13 =>
gd (bB v1 l13.length) (
ob (l13[v1.toNat]?) fun(x20,x21,x22,x23,x24,x25,x26,x27,x28,x29,x30,x31,x32,x33,x34,x35) =>
ob (u6 n x20 x21 x22 x23 x24 x25 x26 x27 x28 x29 x30 x31 x32 x33 x34 x35) fun(r5,l16,r6,l17) =>
gd (bB v0 l2.length) (
ob (l2[v0.toNat]?) fun(x36,l18,x37,l19) =>
ob (Cz n r5 l16 r6 l17 x36 l18 x37 l19) fun(r7,l20,r8,l21) =>
gd (bB v1 l2.length) (
ob (l2[v1.toNat]?) fun(x38,l22,x39,l23) =>
ob (GM n r7 l20 r8 l21 x38 l22 x39 l23) fun(r3,l14,r4,l15) =>
ob (
ob (zx n r3 l14 r4 l15 r0 l11 r1 l12) fun r9 =>
br (decide (r9<0)) (
some (r3,l14,r4,l15)) (
some (r0,l11,r1,l12))) fun(v6,l24,v7,l25) =>
ob (
br (decide (v1=v0)) (
ob (zy n) fun(r10,l26,r11,l27) =>
some (r10,l26,r11,l27)) (
some (v6,l24,v7,l25))) fun(v2,l4,v3,l7) =>
ob (vk n v4 l8 v5 l9 v2 l4 v3 l7) fun(r12,l28,r13,l29) =>
gd (lim (l3++([(v2,l4,v3,l7)]:XB (Bool×XB Int×Bool×XB Int))).length) (
some (.inl ((l3++([(v2,l4,v3,l7)]:XB (Bool×XB Int×Bool×XB Int))),r12,l28,r13,l29,WQ (v0+1))))))))))) (
some (.inr (l3,v4,l8,v5,l9)))
def uR(n:Nat)(l1:XB (XB XN))(l7:XB (Bool×XB Int×Bool×XB Int)):(XB (XB XN)×Int)->XA ((XB (XB XN)×Int) ⊕(Int ⊕(XB (XB XN)))):=fun(l2,v0) =>
br (decide (v0<(l1.length:Int))) (
ob (zy n) fun(r1,l8,r3,l9) =>
ob (
bN (wB n l1 v0 l7) n (([]:XB (Bool×XB Int×Bool×XB Int)),r1,l8,r3,l9,0)) fun(l3,v1,l10,v2,l11) =>
ob (vj n 1 1) fun(r4,l12,r5,l13) =>
ob (I1 n r4 l12 r5 l13 v1 l10 v2 l11) fun(r6,l14,r7,l15) =>
gd (bB v0 l3.length) (
ob (l3[v0.toNat]?) fun(x3,l16,x4,l17) =>
ob (Ch n (l3.set v0.toNat (r6,l14,r7,l15))) fun(l4,r0) =>
br (!decide (r0=0)) (
some (.inr (.inl r0))) (
gd (lim (l2++([l4]:XB (XB XN))).length) (
some (.inl ((l2++([l4]:XB (XB XN))),WQ (v0+1))))))) (
some (.inr (.inr l2)))
def Mo(n:Nat)(l1:XB (XB XN))(l2:XB XO):XA (XB (XB XN)×Int) :=
ob (M4 n l1) fun r0 =>
br (!r0) (
some ([],330)) (
ob (
br (!decide ((l2.length:Int)=(l1.length:Int))) (
some true) (
ob (yu n l2 1) fun r1 =>
some r1)) fun v0 =>
br (v0) (
some ([],2)) (
ob (CB n l2) fun l3 =>
ob (α:=(Int) ⊕(XB (XB XN))) (
bN (uR n l1 l3) n (([]:XB (XB XN)),0)) fun r3=>match r3 with
| .inl v1 =>
some ([],v1)
| .inr l4 =>
some (l4,0)))
def Kq(n:Nat)(x1:Bool)(l2:XB (Int))(x6:Bool)(l7:XB (Int)):XA Bool :=
some (decide ((l2.length:Int)=0))
def w7(n:Nat)(l2:XB (Bool×XB Int×Bool×XB Int)):(Bool×XB (Int)×Bool×XB (Int)×Int)->XA ((Bool×XB (Int)×Bool×XB (Int)×Int) ⊕(Bool×XB (Int)×Bool×XB (Int))):=fun(v1,l3,v2,l4,v0) =>
br (decide (v0<(l2.length:Int))) (
gd (bB v0 l2.length) (
ob (l2[v0.toNat]?) fun(x3,l7,x4,l8) =>
ob (vk n v1 l3 v2 l4 x3 l7 x4 l8) fun(r0,l9,r1,l10) =>
some (.inl (r0,l9,r1,l10,WQ (v0+1))))) (
some (.inr (v1,l3,v2,l4)))
def uK(n:Nat)(l2:XB (Bool×XB Int×Bool×XB Int))(v1:Bool)(l4:XB (Int))(v2:Bool)(l7:XB (Int)):(XB (Bool×XB Int×Bool×XB Int)×Int)->XA ((XB (Bool×XB Int×Bool×XB Int)×Int) ⊕(XB (Bool×XB Int×Bool×XB Int))):=fun(l3,v0) =>
br (decide (v0<(l2.length:Int))) (
gd (bB v0 l2.length) (
ob (l3[v0.toNat]?) fun(x3,l8,x4,l9) =>
ob (GM n x3 l8 x4 l9 v1 l4 v2 l7) fun(r0,l10,r1,l11) =>
gd (bB v0 l2.length) (
some (.inl ((l3.set v0.toNat (r0,l10,r1,l11)),WQ (v0+1)))))) (
some (.inr l3))
def M1(n:Nat)(l1:XB XO):XA (XB XN×Int) :=
br (decide (60<(l1.length:Int))) (
some ([],3)) (
ob (yu n l1 0) fun r0 =>
br (r0) (
some ([],2)) (
ob (CB n l1) fun l2 =>
ob (zy n) fun(r1,l7,r3,l8) =>
ob (
bN (w7 n l2) n (r1,l7,r3,l8,0)) fun(v0,l3,v1,l4) =>
ob (Kq n v0 l3 v1 l4) fun r4 =>
br (r4) (
some ([],7)) (
ob (
bN (uK n l2 v0 l3 v1 l4) n (l2,0)) fun l9 =>
ob (Ch n l9) fun(l10,r5) =>
some (l10,r5))))
def Fv(n:Nat)(l2:XB (XB XN)):(XB (XB XN)×Int)->XA ((XB (XB XN)×Int) ⊕(XB (XB XN))):=fun(l3,v0) =>
br (decide (v0<(l2.length:Int))) (
gd (bB 0 l2.length) (
ob (l2[WR]?) fun l4 =>
gd (lim (l3++([l4]:XB (XB XN))).length) (
some (.inl ((l3++([l4]:XB (XB XN))),WQ (v0+1)))))) (
some (.inr l3))
def FG(n:Nat)(l3:XB XN):(XB XO×Nat×Int)->XA ((XB XO×Nat×Int) ⊕(XB XO×Nat)):=fun(l2,n2,v0) =>
br (decide (v0<(l3.length:Int))) (
gd (bB v0 l3.length) (
ob (l3[v0.toNat]?) fun(x3,x4,x5,x6,x7,x8,x9,x10,x11,x12,x14,x15,x16,x17,x18,x19) =>
gd (lim (l2++[(x3,x4,x5,x6,x7,x8,x9,x10)]).length) (
some (.inl ((l2++[(x3,x4,x5,x6,x7,x8,x9,x10)]),(l2++[(x3,x4,x5,x6,x7,x8,x9,x10)]).length,WQ (v0+1)))))) (
some (.inr (l2,n2)))
def GZ(n:Nat)(l4:XB XO)(l7:XB XO)(l8:XB XO)(l2:XB (XB XN)):Int->XA (Int⊕XC⊕XC):=fun v0 =>
br (decide (v0<3)) (
gd (bB v0 3) (
ob ([(Xl l4 4),l7,l8][v0.toNat]?) fun l3 =>
ob (M5 n l2 l3) fun(r0,r1) =>
ob (Nl n l2 l3) fun(r3,r4) =>
ob (KS n l2 l3) fun(l9,r5) =>
ob (Mo n l2 l3) fun(l10,r6) =>
ob (
br (!(r0==r3)) (
some true) (
br (!decide (r1=r4)) (
some true) (
ob (Q2 n l9 l10) fun r7 =>
br (!r7) (
some true) (
some (!decide (r5=r6)))))) fun v1 =>
br (v1) (
some (.inr (.inl ()))) (
some (.inl (WQ (v0+1)))))) (
some (.inr (.inr ())))
def IG(n:Nat)(l3:XB (XB XN))(l4:XB (XB XN))(l7:XB (XB XN))(l8:XB (XB XN))(x3:Nat)(l9:XB (Nat))(l10:XB XO)(l11:XB XO):Int->XA (Int⊕XC⊕XC):=fun v0 =>
br (decide (v0<4)) (
gd (bB v0 4) (
ob ([l3,l4,l7,l8][v0.toNat]?) fun l2 =>
ob (Lo n l2) fun r0 =>
ob (P2 n l2) fun r1 =>
br (!decide (r0=r1)) (
some (.inr (.inl ()))) (
ob (Qc n x3 l9 (l2.length:Int)) fun l12 =>
ob (α:=(XC)⊕XC) (
bN (GZ n l10 l12 l11 l2) n 0) fun r3=>match r3 with
| .inl _ =>
some (.inr (.inl ()))
| .inr _ =>
some (.inl (WQ (v0+1)))))) (
some (.inr (.inr ())))
def Jf(n:Nat)(l2:XB (XB XO)):Int->XA (Int⊕XC⊕XC):=fun v0 =>
br (decide (v0<(l2.length:Int))) (
gd (bB v0 l2.length) (
ob (l2[v0.toNat]?) fun l3 =>
ob (M3 n l3) fun(l4,r0) =>
ob (M1 n l3) fun(l7,r1) =>
ob (
ob (QN n l4 l7) fun r3 =>
br (!r3) (
some true) (
some (!decide (r0=r1)))) fun v1 =>
br (v1) (
some (.inr (.inl ()))) (
some (.inl (WQ (v0+1)))))) (
some (.inr (.inr ())))
def F5(n:Nat)(l1:XB (XB XN))(x3:Nat)(l7:XB (Nat))(x13:Nat)(x5:Nat)(x6:Nat)(x7:Nat)(x8:Nat)(x9:Nat)(x10:Nat)(x11:Nat)(x12:Nat)(x14:Nat)(x15:Nat)(x16:Nat)(x17:Nat)(x18:Nat)(x19:Nat)(x20:Nat)(x21:Nat)(x22:Nat)(l2:XB XO)(x4:Nat):XA Bool :=
ob (SD n) fun r0 =>
br (!r0) (
some false) (
ob (QP n x3 l7) fun l3 =>
gd (okB 0 (mi (l2.length:Int) (4:Int)) l2.length) (
ob (
bN (Fv n l3) n (([]:XB (XB XN)),0)) fun l9 =>
gd (bB 0 l3.length) (
ob (l3[WR]?) fun l10 =>
ob (
bN (FG n l10) n (([]:XB XO),0,0)) fun(l4,n2) =>
ob (Qn n l1) fun l11 =>
ob (Qi n x13 x5 x6 x7 x8 x9 x10 x11 x12 x14 x15 x16 x17 x18 x19 x20 x21 x22 l3) fun l12 =>
ob (α:=(XC)⊕XC) (
bN (IG n l3 l11 l12 l9 x3 l7 l2 l4) n 0) fun r1=>match r1 with
| .inl _ =>
some false
| .inr _ =>
ob (
br (decide (x4%32=0)) (
ob (some (WQ (50+(Int.tmod (WQ ((uw .u16 (x4/32):Nat):Int)) 20)))) fun y2 =>
ob (Qc n x3 l7 y2) fun l8 =>
gd (lim (([(Xl l2 4),l4]:XB (XB XO))++([l8]:XB (XB XO))).length) (
some (([(Xl l2 4),l4]:XB (XB XO))++([l8]:XB (XB XO))))) (
some ([(Xl l2 4),l4]:XB (XB XO)))) fun l13 =>
ob (α:=(XC)⊕XC) (
bN (Jf n l13) n 0) fun r3=>match r3 with
| .inl _ =>
some false
| .inr _ =>
some true)))
set_option exponentiation.threshold 3000
abbrev T8:=XO
def w8(x:T8):XB Nat:=let(a,b,c,d,e,f,g,i):=x; [a,b,c,d,e,f,g,i]
def WT(l:XB T8):Prop:=∀x,x∈l->Wd (w8 x)
section
variable{n B:Nat}
def Bf{w z:XB Nat}(hw:Wd w)(hz:Wd z)(w8:w.length=8)(z8:z.length=8):∀(k m:Nat),k<=8->k<m->w.drop k=z.drop k ->
  ∃r:Int⊕XC,bN (eE n) m (w,z,(k:Int)-1)=some r/\((r=.inl (-1)/\vl w<vl z)\/(r=.inl 1/\vl z<vl w)\/(r=.inr ()/\vl w=vl z))
 | 0,m+1,_,_,h=>by
  refine⟨.inr (),bI ?_,.inr (.inr ⟨rfl,VB vl h⟩)⟩;unfold eE
  dsimp only
  rw[Xn]
 | k+1,m+1,h1,h2,h=>by
  obtain⟨x,ex⟩:∃x,w[k]? = some x:=⟨_,T6 (by omega)⟩
  obtain⟨y,ey⟩:∃y,z[k]? = some y:=⟨_,T6 (by omega)⟩
  have hk:bB ((k:Nat):Int) 8=true:=ak (by omega)
  have vx:=iY ex;have vy:=iY ey;rw[h] at vx;have tx:=du w k (by omega)
  have ty:=du z k (by omega)
  have lx:=iQ (hw.take k);have ly:=iQ (hz.take k);rw[U0,US (show k<=w.length by omega)] at lx
  rw[U0,US (show k<=z.length by omega)] at ly
  have big:∀{p q a b:Nat},a<wp k->p<q->a+wp k*p<b+wp k*q:=fun{p q a b} ha hpq=>by
   have:wp k*(p+1)<=wp k*q:=Vb _ hpq;rw[Vj,Vo] at this;omega
  by_cases c:x=y
  subst c;have hd:w.drop k=z.drop k:=by
   rw[VJ (l:=w) (i:=k) (by omega),VJ (l:=z) (i:=k) (by omega),h]
   rw[T6 (by omega)] at ex ey
   rw[Ug ex,Ug ey]
  obtain⟨r,g1,g2⟩:=Bf hw hz w8 z8 k m (by omega) (by omega) hd
  refine⟨r,?_,g2⟩;rw[bO (s':=(w,z,(k:Int)-1))]
  exact g1
  unfold eE
  dsimp only
  rw[show((k+1:Nat):Int)-1=(k:Int) by omega,Xm,hk,ay,T5,ex,ab,ay,ey,ab,Ud rfl,Uj,bK,aA (by omega) (by omega)]
  have st:∀r:Int⊕XC,r=.inl (if x<y then -1 else 1)->bN (eE n) (m+1) (w,z,((k+1:Nat):Int)-1)=some r:=fun r hr=>by
   subst hr;refine bI ?_;unfold eE
   dsimp only
   rw[show((k+1:Nat):Int)-1=(k:Int) by omega,Xm,hk,ay,T5,ex,ab,ay,ey,ab,Um c,Uw,cx,ay,ay]
   by_cases c2:x<y
   rw[az c2,Ui c2]
   rw[aC c2,Uk c2]
  by_cases c2:x<y
  refine⟨_,st _ rfl,.inl ⟨by rw[Ui c2],?_⟩⟩
  rw[tx,ty,vx,vy];exact big lx (by omega)
  refine⟨_,st _ rfl,.inr (.inl ⟨by rw[Uk c2],?_⟩)⟩
  rw[tx,ty,vx,vy];exact big ly (by omega)
def HX(hn:20<n){a b c d e f g i a' b' c' d' e' f' g' i':Nat}(hw:Wd [a,b,c,d,e,f,g,i])(hz:Wd [a',b',c',d',e',f',g',i']):∃r:Int,zO n a b c d e f g i a' b' c' d' e' f' g' i'=some r/\(r<0↔vl [a,b,c,d,e,f,g,i]<vl [a',b',c',d',e',f',g',i']):=by
 obtain⟨r,r1,r2⟩:=Bf (n:=n) hw hz rfl rfl 8 n (by decide) (by omega) rfl
 unfold zO;rw[show(7:Int)=((8:Nat):Int)-1 from rfl,r1]
 rcases r2 with⟨rfl,h⟩|⟨rfl,h⟩|⟨rfl,h⟩
 exact⟨-1,rfl,by omega⟩
 exact⟨1,rfl,by omega⟩
 exact⟨0,rfl,by omega⟩
def DI{x:Nat}(h:x<2 ^ 63):(2 ^ 63+x) ^^^ 2 ^ 63=x:=by
 apply Nat.eq_of_testBit_eq;intro i;rw[Nat.testBit_xor,Nat.testBit_two_pow]
 by_cases e:i=63
 subst e;rw[Nat.testBit_two_pow_add_eq,Nat.testBit_lt_two_pow h]; rfl
 rw[Um (by omega),Bool.xor_false]
 by_cases l:i<63
 rw[Nat.testBit_two_pow_add_gt l]
 rw[Nat.testBit_lt_two_pow (Uc (show 2 ^ 63+x<2 ^ 64 by omega) (Up (by decide) (by omega))),Nat.testBit_lt_two_pow (Uc h (Up (by decide) (by omega)))]
def Ks{x:Nat}(h:x<18446744073709551616):uw .u64 (uw .u64 x ^^^ uw .u64 9223372036854775808)=if x<9223372036854775808 then x+9223372036854775808 else x-9223372036854775808:=by
 have e63:(2:Nat) ^ 63=9223372036854775808:=by decide
 rw[fJ (a:=x) h,fJ (a:=9223372036854775808) (by decide)]
 by_cases c:x<9223372036854775808
 have h1:=DI (x:=x) (by rw[e63]; exact c)
 rw[e63] at h1;have h2:x ^^^ 9223372036854775808=9223372036854775808+x:=by
  conv=>lhs; rw[<-h1]
  rw[Nat.xor_assoc,Nat.xor_self,Nat.xor_zero]
 rw[h2,fJ (by omega),Ui c,Nat.add_comm]
 have h1:=DI (x:=x-9223372036854775808) (by rw[e63]; omega)
 rw[e63,show 9223372036854775808+(x-9223372036854775808)=x by omega] at h1
 rw[h1,fJ (by omega),Uk c]
def G1(hn:20<n){a b c d e f g i a' b' c' d' e' f' g' i':Nat}(hw:Wd [a,b,c,d,e,f,g,i])(hz:Wd [a',b',c',d',e',f',g',i']):∃r:Int,JU n a b c d e f g i a' b' c' d' e' f' g' i'=some r/\(r<0↔zv [a,b,c,d,e,f,g,i]<zv [a',b',c',d',e',f',g',i']):=by
 have key:∀{a b c d e f g i:Nat},Wd [a,b,c,d,e,f,g,i]->∃j,uw .u64 (uw .u64 i ^^^ uw .u64 9223372036854775808)=j/\Wd [a,b,c,d,e,f,g,j]/\(vl [a,b,c,d,e,f,g,j]:Int)=zv [a,b,c,d,e,f,g,i]+2 ^ 511:=fun{a b c d e f g i} h=>by
  obtain⟨h1,h2⟩:=rH h;have hj:(if i<9223372036854775808 then i+9223372036854775808 else i-9223372036854775808)<18446744073709551616:=by split<;>omega
  refine⟨_,Ks h2,fun x hx=>?_,?_⟩
  simp only[UC,List.not_mem_nil,or_false] at hx;rcases hx with rfl|rfl|rfl|rfl|rfl|rfl|rfl|rfl
  exact h _ (by simp)
  exact h _ (by simp)
  exact h _ (by simp)
  exact h _ (by simp)
  exact h _ (by simp)
  exact h _ (by simp)
  exact h _ (by simp)
  exact hj
  unfold zv
  by_cases q:i<9223372036854775808
  rw[Ui (h1.2 q),Ui q];simp only[vl];omega
  rw[Uk fun k=>q (h1.1 k),Uk q];simp only[vl];omega
 obtain⟨j,j1,j2,j3⟩:=key hw;obtain⟨k,k1,k2,k3⟩:=key hz;obtain⟨r,r1,r2⟩:=HX hn j2 k2;refine⟨r,?_,?_⟩
 unfold JU;rw[j1,k1,r1,ab]
 rw[r2]; omega
def JG(hn:30<n):NX n 0=some (0,0,0,0,0,0,0,0)/\NX n 1=some (1,0,0,0,0,0,0,0):=by
 obtain⟨m,rfl⟩:∃m,n=m+20:=⟨n-20,by omega⟩
 exact⟨rfl,rfl⟩
def HK{k:Nat}(h:k<18446744073709551616):Wd [k,0,0,0,0,0,0,0]:=fun x hx=>by simp at hx; omega
def Iw{k:Nat}(h:k<18446744073709551616):zv [k,0,0,0,0,0,0,0]=(k:Int):=by
 have:vl [k,0,0,0,0,0,0,0]=k:=by simp[vl]
 unfold zv;rw[this,WV]
attribute [local irreducible] zv
def Sr(least:Nat)(L:XB T8):Prop:=∀i,i<L.length->∃x,L[i]? = some x/\(least:Int)<=zv (w8 x)
def uv(hn:2000000<n){L:XB T8}(hL:WT L)(hN:L.length<=1000){k:Nat}(hk:k<=1):(Sr k L/\zf n L (k:Int)=some false/\yu n L (k:Int)=some false)\/(¬Sr k L/\zf n L (k:Int)=some true/\yu n L (k:Int)=some true):=by
 have hd:=Am;have e1:∀i x,i<L.length->L[i]? = some x->oJ n L (k:Int) (i:Int)=if(k:Int)<=zv (w8 x) then some (.inl ((i+1:Nat):Int)) else some (.inr (.inl (i:Int))):=fun i x hi e=>by
  have hx:=hL x (Ur e);obtain⟨x1,x2,x3,x4,x5,x6,x7,x8⟩:=x
  change Wd [x1,x2,x3,x4,x5,x6,x7,x8] at hx
  change _=if(k:Int)<=zv [x1,x2,x3,x4,x5,x6,x7,x8] then _ else _
  have hf:NX n (k:Int)=some (k,0,0,0,0,0,0,0):=by
   match k,hk with
   | 0,_=>exact(JG (by omega)).1
   | 1,_=>exact(JG (by omega)).2
  obtain⟨r,r0,r2⟩:=G1 (n:=n) (by omega) hx (HK (k:=k) (by omega))
  rw[Iw (by omega)] at r2
  unfold oJ;rw[Xm,ak hi,ay,T5,e,ab]
  dsimp only
  rw[hf,ab]
  dsimp only
  rw[r0,ab,ab,Xo]
  by_cases c:(k:Int)<=zv [x1,x2,x3,x4,x5,x6,x7,x8]
  rw[Ui c,Um (by omega),bK]
  rw[Uk c,Ud (by omega),cx]
 have e2:∀i x,i<L.length->L[i]? = some x->oI n L (k:Int) (i:Int)=if(k:Int)<=zv (w8 x) then some (.inl ((i+1:Nat):Int)) else some (.inr (.inl ())):=fun i x hi e=>by
  have hx:=hL x (Ur e);obtain⟨x1,x2,x3,x4,x5,x6,x7,x8⟩:=x
  change Wd [x1,x2,x3,x4,x5,x6,x7,x8] at hx
  change _=if(k:Int)<=zv [x1,x2,x3,x4,x5,x6,x7,x8] then _ else _
  have ha:=lY hx rfl;obtain⟨t,t0,t1⟩:=rW hn (v:=k) (uH (by omega))
  have b0:(1:Nat)<2 ^ 511:=by decide +kernel
  rcases t1 with⟨_,y1,y2,y3,y4,y5,y6,y7,y8,rfl,q0,q2⟩|⟨q,_⟩
  have hz:zv [y1,y2,y3,y4,y5,y6,y7,y8]=(k:Int):=by unfold zv; rw[q2,WV]
  unfold oI;rw[Xm,ak hi,ay,T5,e,ab]
  dsimp only
  unfold BY;rw[ue n (v:=k) (by omega) (by omega),ab]
  dsimp only
  rw[t0,ab]
  dsimp only
  rw[ab]
  dsimp only
  unfold Ky;rw[ij hn hx,ab]
  dsimp only
  rw[ij hn q0,ab]
  dsimp only
  rw[hz,Um (show ¬(k:Int)<0 by omega),UP,Xo]
  generalize zv [x1,x2,x3,x4,x5,x6,x7,x8]=z at *
  by_cases c0:z<0
  
  rw[Ud c0,WU]
  have hr:Bi n true (Dg z.natAbs) false (Dg k)=some (-1):=by
   unfold Bi FX;rw[xi (by omega) (uH (by omega)),ab]
   dsimp only
   unfold rE
   by_cases k0:k=0
   subst k0;obtain⟨r,f1,f2,f0⟩:=pP n (a:=z.natAbs) (b:=0) (by omega) (by omega) (by omega)
   rw[show(true==decide ((0:Nat)≠0))=false from rfl,bK,f1,ab,az (show 0<=r from Int.not_lt.1 fun h=>Uy (f0.1 h) (Wv _)),mU n (by omega) (by omega) (by omega),ab,jW n (by omega) (by omega) (by omega),ab]
   rfl
   rw[Ud k0,show(true==true)=true from rfl,cx,yA n (by omega) (by omega),ab,jW n (by omega) (by omega) (by omega),ab]
   rfl
  rw[hr,ab,ab,az (by decide)]
  obtain⟨r,r0,r2,r1⟩:=yV (n:=n) (by omega) (a:=z.natAbs) (b:=k) (by omega) (by omega)
  rw[Um c0,r0,ab,ab]
  by_cases c:(k:Int)<=z
  rw[Ui c,aC (fun h=>by have:=r1.1 h; omega)]
  rw[Uk c,az (r1.2 (by omega))]
  exact Uy (show k<2 ^ 511 by omega) q
 rcases ft (fun i=>∃x,L[i]? = some x/\(k:Int)<=zv (w8 x)) L.length with h|⟨j,h1,h2,h3⟩
 left
 obtain⟨_,g0,_⟩:=aS (body:=oJ n L (k:Int)) L.length (fun(_:XC) (v:Int)=>v) (fun _=>(.inr ():Int⊕XC)) (fun _ _=>True) (fun s i hi _=>by
  obtain⟨x,a1,a2⟩:=h i hi;exact⟨(),by rw[e1 i x hi a1,Ui a2],trivial⟩) (fun s _=>by unfold oJ; rw[Xn]) (n:=n) (s:=()) trivial (by omega)
 obtain⟨_,g1,_⟩:=aS (body:=oI n L (k:Int)) L.length (fun(_:XC) (v:Int)=>v) (fun _=>(.inr ():XC⊕XC)) (fun _ _=>True) (fun s i hi _=>by
  obtain⟨x,a1,a2⟩:=h i hi;exact⟨(),by rw[e2 i x hi a1,Ui a2],trivial⟩) (fun s _=>by unfold oI; rw[Xn]) (n:=n) (s:=()) trivial (by omega)
 refine⟨h,?_,?_⟩
 unfold zf; rw[g0]; rfl
 unfold yu; rw[g1]; rfl
 right
 have ej:L[j]? = some L[j]:=T6 h1;have hneg:¬(k:Int)<=zv (w8 L[j]):=fun h=>h2 ⟨_,ej,h⟩;obtain⟨_,g0,_⟩:=aS (body:=oJ n L (k:Int)) j (fun(_:XC) (v:Int)=>v) (fun _=>(.inl (j:Int):Int⊕XC)) (fun _ _=>True) (fun s i hi _=>by
  obtain⟨x,a1,a2⟩:=h3 i hi;exact⟨(),by rw[e1 i x (by omega) a1,Ui a2],trivial⟩) (fun s _=>by rw[e1 j _ h1 ej,Uk hneg]) (n:=n) (s:=()) trivial (by omega)
 obtain⟨_,g1,_⟩:=aS (body:=oI n L (k:Int)) j (fun(_:XC) (v:Int)=>v) (fun _=>(.inl ():XC⊕XC)) (fun _ _=>True) (fun s i hi _=>by
  obtain⟨x,a1,a2⟩:=h3 i hi;exact⟨(),by rw[e2 i x (by omega) a1,Ui a2],trivial⟩) (fun s _=>by rw[e2 j _ h1 ej,Uk hneg]) (n:=n) (s:=()) trivial (by omega)
 refine⟨fun h=>h2 (h j h1),?_,?_⟩
 unfold zf;rw[g0]
 show ob (ob (some (j:Int)) fun v=>some (decide (0<=v))) _=_
 rw[ab,Ud (by omega)]; rfl
 unfold yu; rw[g1]; rfl
def mP(v:Nat):bo 1 v=(v,1):=by unfold bo; rw[Nat.gcd_one_right,WA]
def lK(hn:2000000<n){L:XB T8}(hL:WT L)(hN:L.length<=1000)(hg:Sr 0 L):∃(v:Nat->Nat) (R:XB Rt) (S:XB Rr),Dr n L=some R/\CB n L=some S/\RQ R v 1 L.length/\RR S v 1 L.length/\(∀i x,L[i]? = some x->(v i:Int)=zv (w8 x))/\∀i,i<L.length->v i<=Mx:=by
 obtain⟨v,val⟩:∃v:Nat->Nat,∀(i:Nat) (x:T8),L[i]? = some x->(v i:Int)=zv (w8 x):=by
  refine⟨fun i=>match L[i]? with
   | some x=>(zv (w8 x)).natAbs
   | none=>0,fun i x e=>?_⟩
  have hi:i<L.length:=(Uq.1 e).1;obtain⟨y,y1,y2⟩:=hg i hi;rw[e] at y1;cases y1
  show((match L[i]? with
   | some x=>(zv (w8 x)).natAbs
   | none=>0:Nat):Int)=_
  rw[e]
  show(((zv (w8 x)).natAbs:Nat):Int)=_
  omega
 obtain⟨R,f1,f2⟩:=aS (body:=qM n L) L.length (fun(s:XB Rt) (v:Int)=>(s,v)) id (fun i s=>RQ s v 1 i) (fun s i hi hq=>by
  obtain⟨x,e,_⟩:=hg i hi;have hx:=hL x (Ur e);have hv:=val i x e;obtain⟨x1,x2,x3,x4,x5,x6,x7,x8⟩:=x;obtain⟨t,l,g1,g2⟩:=yP (n:=n) (by omega) hx
  change(v i:Int)=zv [x1,x2,x3,x4,x5,x6,x7,x8] at hv
  rw[<-hv] at g2;have:=g2.un;subst this;refine⟨s++[(false,l,false,[1])],?_,⟨by rw[Uf,hq.len]; rfl,fun j hj=>?_⟩⟩
  unfold qM
  dsimp only
  rw[Xm,ak hi,ay,T5,e,ab]
  dsimp only
  rw[g1,ab]
  dsimp only
  unfold BU;rw[pO (by omega),ab]
  dsimp only
  rw[ab]
  dsimp only
  rw[gW (by rw[Uf,hq.len,UB]; omega),ay,Xo]
  by_cases c:j=i
  subst c;exact⟨l,[1],by rw[UJ (by rw[hq.len]; exact Ua _),hq.len,V2]; rfl,by rw[mP]; exact g2,by rw[mP]; exact oC⟩
  obtain⟨l',k',a1,a2⟩:=hq.at_ j (by omega)
  exact⟨l',k',by rw[U1 (by rw[hq.len]; omega)]; exact a1,a2⟩) (fun s hq=>by
  unfold qM
  dsimp only
  rw[Xn]; rfl) (n:=n) (s:=[]) ⟨rfl,fun i hi=>Uy hi (by omega)⟩ (by omega)
 obtain⟨S,f3,f4⟩:=aS (body:=qN n L) L.length (fun(s:XB Rr) (v:Int)=>(s,v)) id (fun i s=>RR s v 1 i) (fun s i hi hq=>by
  obtain⟨x,e,_⟩:=hg i hi;have hx:=hL x (Ur e);have hv:=val i x e;obtain⟨x1,x2,x3,x4,x5,x6,x7,x8⟩:=x
  change(v i:Int)=zv [x1,x2,x3,x4,x5,x6,x7,x8] at hv
  refine⟨s++[RL (v i) 1],?_,⟨by rw[Uf,hq.len]; rfl,fun j hj=>?_⟩⟩
  have hlim:lim (s++([RL (v i) 1]:XB Rr)).length=true:=gW (by rw[Uf,hq.len,UB]; omega)
  unfold qN
  dsimp only
  rw[Xm,ak hi,ay,T5,e,ab]
  dsimp only
  rw[ij hn hx,ab]
  dsimp only
  rw[show(1:Int)=((1:Nat):Int) from rfl,ue n (v:=1) (by decide) (by omega),ab]
  dsimp only
  rw[<-hv,Um (by omega),UP]
  unfold RL at hlim ⊢;rw[mP] at hlim ⊢
  dsimp only at hlim ⊢
  rw[hlim,ay,show((1:Nat):Int)=1 from rfl,Xo]
  by_cases c:j=i
  subst c;rw[UJ (by rw[hq.len]; exact Ua _),hq.len,V2]; rfl
  rw[U1 (by rw[hq.len]; omega)]; exact hq.at_ j (by omega)) (fun s hq=>by
  unfold qN
  dsimp only
  rw[Xn]; rfl) (n:=n) (s:=[]) ⟨rfl,fun i hi=>Uy hi (by omega)⟩ (by omega)
 refine⟨v,R,S,?_,?_,f2,f4,val,fun i hi=>?_⟩
 unfold Dr;rw[show bN (qM n L) n (([]:XB Rt),0)=_ from f1,ab]; rfl
 unfold CB;rw[show bN (qN n L) n (([]:XB Rr),0)=_ from f3,ab]; rfl
 obtain⟨x,e,_⟩:=hg i hi;have hx:=hL x (Ur e);have hv:=val i x e;have ha:=lY hx rfl;rw[uP];omega
end
end
section
set_option maxRecDepth 100000
open Go Go.ChangeShapes Go.WideShapes Go.ChangeAt Go.WideMaps Go.WideElems Go.RowKit Go.Ab Go.Ab.W
abbrev Sm:T8->XB WJ:=eP XJ (eP XJ (eP XJ (eP XJ (eP XJ (eP XJ (eP XJ XJ))))))
def Td:BG Tryz.prog 5 55=some (List.replicate 8 (.int .u64)):=by kernel_rfl
def SC:BG Tryz.prog 5 71=some [.sl 55]:=by kernel_rfl
def S5:Tryz.prog.underlying 71=some (.slice 55):=by kernel_rfl
def R4:Tryz.prog.underlying 22=some (.int .u16):=by kernel_rfl
section
variable{H:Type}{enc:WK×WJ->H}{W:WO}{sp:Nat->Bool}{held:Bool}{v:WJ}{d:DataW H}{p:XB MemPlace}{base:Nat}
theorem Qj:∀(n:Nat) (cs:XB WJ) (x:DataW H×XB MemPlace),DataW.trod enc Tryz.prog W 0 sp held n 55 cs=some x->∃p:T8,cs=Sm p/\Wd (w8 p):=by
 intro n cs x h;obtain⟨ns,h1,rfl,h3⟩:=Ku 8 _ (iS 5 55 _ Td n _ x h);obtain⟨a,b,c,d,e,f,g,i,rfl⟩:=Kv h1;exact⟨(a,b,c,d,e,f,g,i),rfl,h3⟩
theorem Ri(hok:Value.okWide Tryz.prog W .any base 71 v)(hs:0<W.heap.size)(h:DataW.Trod enc Tryz.prog W 0 sp held 71 v d p):∃(l:XB T8) (a:WH) (c:Nat),
  VR (dH W) (.slice a l.length c) v/\(∀x,x∈l->Wd (w8 x))/\Rd (dP W) a c 8 l.length (l.map Sm):=by
 obtain⟨a0,n0,c0,rfl⟩:=okWide_slice S5 hok;obtain⟨n,h⟩:=h;obtain⟨v1,r,hr,h1,_⟩:=eV (iS 5 71 _ SC n _ _ h);cases hr;obtain⟨a,c,l,e1,e2,e3,_⟩:=IJ (f:=Sm) (w:=8) (by kernel_rfl) (by omega) hs (fun q=>rfl) Qj h1
 exact⟨l,a,c,e1,e3,e2⟩
theorem Rm(hok:Value.okWide Tryz.prog W .any base 22 v)(h:DataW.Trod enc Tryz.prog W 0 sp held 22 v d p):∃n:Nat,v=.int .u16 ((n:Nat):Int)/\n<65536:=by
 obtain⟨k,rfl⟩:=okWide_int R4 hok;obtain⟨n,h⟩:=h;obtain⟨m,e,_,hw⟩:=DataW.trod_int R4 h;exact La (enc:=enc) (P:=Tryz.prog) (W:=W) (base:=0) (sp:=sp) (held:=held) ⟨m,by cases e; rfl,hw⟩
end
end
end Go.Proofs.YtpkadoocdgdcfaaGreatDoor
namespace Go.Ab.W
section
open Go Go.Ab
section
variable{E:Env}{m0:Xq}{fs:Fs}{ps:XB Pc}{x:WM}{ty:WK}
def Rq{elem:WK}{w:Nat}{i:Int}{z:WJ}{es:WG}(ht:SlT E.P ty elem w)(hx:ev E fs x=some (.int .i64 i))(hi:decide (0<=i)=true)(hl:lim i.toNat=true)(hz:bR E.P elem=some z)(hp:z.cells.toList.all aM=true)(he:List.replicate i.toNat z.cells.toList=es) :
  Ox E m0 fs ps (.makeSlice ty x x) (fun b=>.slice (some ⟨b,0,none⟩) i.toNat i.toNat) (fun b=>.arr b w i.toNat es .own::ps):=by
 have:=QK (m0:=m0) (ps:=ps) ht hx (Vd (of_decide_eq_true hi)).symm hl hz hp;rw[he] at this;exact this
end
set_option maxRecDepth 10000
attribute [local irreducible] Tm.at Trie.set Trie.get Xq.get Xq.set Xq.alloc Xq.ww
end
section
open Go Go.Ab
section
variable{E:Env}{n:Nat}{m0 m:Xq}{fs fs':Fs}{ps ps':XB Pc}{ops:XD Oper}{os:XB Oper}{K:Tm->Xq->Prop}{dr:Bool}{fn:XI}{ro:XA Nat}{c:Code}{Q:Xr->Tm->Xq->Prop}
variable{ty oty:WK}{p:String}{af:XD Edge}{d:Nat}{g:XA (Nat×Bool)}{x:WM}{v:WJ}
def lw{σ ρ γ:Type}{δ:ρ->Type}{body:σ->XA (σ⊕ρ)}{X:(r:ρ)->δ r->En}{N:Nat}{s:σ}{r:ρ}(h:bN body N s=some r)(g:γ)(I:σ->γ->En)(T:ai m0 ps (I s g).ps)
  (hb:∀s g r,body s=some r->Wk E n fn ro c (match r with|.inl s'=>nZ m0 (I s')|.inr r=>nZ m0 (X r)) m0 (I s g).fs (I s g).ps)
  (hs:sub fs (I s g).fs:=by repeat first|exact sn|refine sc rfl ?_)
  (hn:∀s g,(I s g).e=.normal:=by exact fun _ _=>rfl) (hx:∀r g,(X r g).e≠.normal:=by intro r d; first |(intro e; cases e; done) |(rcases r with r|r<;>first |(intro e; cases e; done) |(rcases r with r|r<;>first |(intro e; cases e; done) |(rcases r with r|r<;>intro e<;>cases e)))):Wk E n fn ro (.loop c) (nZ m0 (ap X r)) m0 fs ps:=.Jd hs T (Wk.loop body I X hb hn hx N s r h g)
def aT{γ:Type}{G:γ->En}{e:Xr}(g:γ)(T:ai m0 ps (G g).ps)(he:e=(G g).e:=by rfl)(hs:sub fs (G g).fs:=by repeat first|exact sn|refine sc rfl ?_):At (nZ m0 G) e m0 fs ps:=At.en g he hs T
def aO:XB Pc->XB Pc->XA (XB Pc)
 | [],ps=>some ps
 | p::l,ps=>match aO l ps with
  | some q=>some (p::q)
  | none=>none
def Nn:∀{l ps q:XB Pc},aO l ps=some q->q=l++ps
 | [],ps,q,h=>by cases h; rfl
 | p::l,ps,q,h=>by
  unfold aO at h
  split at h
  rename_i q' e; cases h; rw[Nn e]; rfl
  cases h
def q7{α:Type}{r:Rep α}{ag:Bool}{sz b o w j c q off:Nat}{R:WI}{L:XB α}{es:WG}{z:α}{V:r.G->WJ}{N:r.G->XB Pc}(ht:TyI E.P ty ag sz)(hx:ev E fs x=some (ptr b off))(ho:off=o+j*w+c)(hli:∀m,Hp m0 m ps->oZ m b o w es)(hq:pk ps q=some (.gen (eh r R L es)))(hl:L[j]? = some z)(hv:∀g,AP ag sz (r.V z g) c=some (V g))(hs:yG ag sz c w=true)(hN:∀g,aO (r.N z g R) ps=some (N g)):Ox E m0 fs ps (.load ty x) V N :=
 R5 ht hx ho hli hq hl hv hs fun g=>Nn (hN g)
def wl{α:Type}{r:Rep α}{ag:Bool}{sz b o j l off:Nat}{R:WI}{L:XB α}{es:WG}{z:α}{V:r.G->WJ}{N:r.G->XB Pc}(w c q k:Nat)(hl:L[j]? = some z)(kk:∀g,Wo dr E n ops K os m0 ((d,V g)::fs) (N g))(ht:TyI E.P oty ag sz:=by exact TyC.t)(hx:ev E fs x=some (ptr b off):=by rfl)(hp:pk ps k=some (.ro b o w l es):=by rfl)(ho:off=o+j*w+c:=by rfl)(hq:pk ps q=some (.gen (eh r R L es)):=by rfl)(hv:∀g,AP ag sz (r.V z g) c=some (V g):=by exact fun _=>rfl)(hs:yG ag sz c w=true:=by rfl)(hN:∀g,aO (r.N z g R) ps=some (N g):=by exact fun _=>rfl)(hd:Nat.blt d n=true:=by rfl):Wo dr E n ops K (⟨some d,.load oty x,ty,p,af,none⟩::os) m0 fs ps:=W9 (q7 ht hx ho (md hp) hq hl hv hs hN) gn hd kk
variable{α:Type}{V:α->WJ}{N:α->XB Pc}{R S:α->Pc}{f:WM}{q:XI}{ars:XD WM}{ts:XD WK}{args:XB WJ}{prs:XB (Nat×Nat)}{ss:XB Nk}
def kL(hg:sT ops fs g true)(hc:∀m,Hp m0 m ps->ax E q args m (fun v m'=>∃x,v=V x/\Hp m m' [R x,S x,.gen (pU (kM ps))]))(k:∀x,Wo dr E n ops K os m0 ((d,V x)::fs) (R x::S x::ps))(hf:ev E fs f=some (.func (.func q) #[] #[]):=by rfl)(ha:jK E fs ars.toList=some args:=by rfl)(ho:∀x,j4 [R x,S x]=true:=by exact fun _=>rfl)(hd:Nat.blt d n=true:=by rfl):Wo dr E n ops K (⟨some d,.call ⟨.value f,ars,ts⟩,ty,p,af,g⟩::os) m0 fs ps:=W9 (Fa (N:=fun x=>[R x,S x]) hf ha hc ho) hg hd k
def m9(hg:sT ops fs g true)(hc:∀m,Hp m0 m ps->ax E q args m (fun v m'=>∃x,v=V x/\Hp m m' [R x,S x,.gen (pU (kM ps))]))(k:∀x,Wn E n ops prs K os (.call::ss) m0 ((d,V x)::fs) (R x::S x::ps))(hf:ev E fs f=some (.func (.func q) #[] #[]):=by rfl)(ha:jK E fs ars.toList=some args:=by rfl)(ho:∀x,j4 [R x,S x]=true:=by exact fun _=>rfl)(hd:Nat.blt d n=true:=by rfl):Wn E n ops prs K (⟨some d,.call ⟨.value f,ars,ts⟩,ty,p,af,g⟩::os) ss m0 fs ps:=Wn.c (Np (N:=fun x=>[R x,S x]) hf ha hc ho) hg hd k
def wq{ρ γ:Type}{first cap:XD WJ}(F:ρ->γ->WJ×XB Pc)(r:ρ)(hc:∀m,Hp m0 m ps->ax E q (first.toList++args++cap.toList) m (fun v m'=>∃x,v=(F r x).1/\Hp m0 m' (F r x).2))(k:∀x,Wo dr E n ops K os m0 ((d,(F r x).1)::fs) (F r x).2)(hf:ev E fs f=some (.func (.func q) first cap):=by rfl)(ha:jK E fs ars.toList=some args:=by rfl)(hd:Nat.blt d n=true:=by rfl):Wo dr E n ops K (⟨some d,.call ⟨.value f,ars,ts⟩,ty,p,af,none⟩::os) m0 fs ps:=W9 (Ph hf ha hc) gn hd k
end
end
end Go.Ab.W
namespace Go.Proofs.YtpkadoocdgdcfaaGreatDoor
open Go Go.Ab Go.Ab.W
set_option maxRecDepth 10000
set_option maxHeartbeats 4000000
attribute [local irreducible] Wo Wk At Wn Od Ox bA bf
attribute [local irreducible] Tm.at Trie.set Trie.get Xq.get Xq.set Xq.alloc Xq.ww Xq.kill
abbrev JS(z0)(z1)(z2):=Pc.rd z0 z1 16 (List.length z2) (List.map XL z2)
abbrev K5(z0)(z1)(z2)(z3)(z4)(z5)(z6)(z7)(z8)(z9)(z10)(z11)(z12)(z13)(z14)(z15)(z16)(z17)(z18):=Pc.obj z0 (.cells [.int .u8 ((z1:Nat):Int),.int .u8 ((z2:Nat):Int),XM z3,XM z4,XM z5,XM z6,XM z7,XM z8,XM z9,XM z10,XM z11,XM z12,XM z13,XM z14,XM z15,XM z16,XM z17,XM z18] .own)
abbrev bg(z0){β1:Type}(z1:XB β1)(z2):=Value.slice z0 (List.length z1) z2
abbrev mZ{γ0:Type}(z0:Rep γ0)(z1)(z2:XB γ0)(z3):=Pc.gen (eh z0 z1 z2 z3)
abbrev cY(z0)(z1)(z2):=Pc.rd z0 z1 1 (List.length z2) (List.map XJ z2)
abbrev di(z0)(z1)(z2):=Pc.rd z0 z1 1 (List.length z2) (List.map (eI .i64) z2)
abbrev bH(z0):=Value.int .i64 z0
abbrev bP(z0):=XM z0
abbrev cF(z0){β1:Type}(z1:XB β1):=Value.slice z0 (List.length z1) (List.length z1)
abbrev F7(z0){β1:Type}(z1:XB β1):=Value.slice (some ⟨z0,0,none⟩) (((List.length z1):Int).toNat) (((List.length z1):Int).toNat)
abbrev BN(z0)(z1){β2:Type}(z2:XB β2)(z3):=Pc.rd z0 z1 1 (List.length z2) z3
abbrev GP(z0)(z1)(z2){β3:Type}(z3:XB β3)(z4)(z5)(z6){β7:Type}(z7:XB β7)(z8):=Pc.obj z0 (.cells [.bool z1,.slice z2 (List.length z3) z4,.bool z5,.slice z6 (List.length z7) z8] .own)
abbrev rr(z0)(z1)(z2)(z3)(z4)(z5)(z6)(z7):=Value.agg #[XM z0,XM z1,XM z2,XM z3,XM z4,XM z5,XM z6,XM z7]
abbrev J3(z0)(z1)(z2)(z3)(z4)(z5)(z6)(z7)(z8)(z9)(z10)(z11)(z12)(z13)(z14)(z15):=Value.agg #[XM z0,XM z1,XM z2,XM z3,XM z4,XM z5,XM z6,XM z7,XM z8,XM z9,XM z10,XM z11,XM z12,XM z13,XM z14,XM z15]
abbrev tP(z0):=Pc.obj z0 (.cells [XM 0,XM 0,XM 0,XM 0,XM 0,XM 0,XM 0,XM 0] .own)
abbrev cB(m)(z0)(z1)(z2):=Rd m z0 z1 1 (List.length z2) (List.map (eI .i64) z2)
abbrev cz(m)(z0)(z1)(z2):=Rd m z0 z1 1 (List.length z2) (List.map XJ z2)
abbrev JR(m)(z0)(z1)(z2):=Rd m z0 z1 16 (List.length z2) (List.map XL z2)
abbrev gQ(z0)(z1){β2:Type}(z2:XB β2)(z3)(z4)(z5){β6:Type}(z6:XB β6)(z7):=Value.agg #[.bool z0,.slice z1 (List.length z2) z3,.bool z4,.slice z5 (List.length z6) z7]
abbrev aP(z0):=Pc.gen (pU z0)
abbrev ep{β0:Type}(z0:XB β0):=Value.int .i64 ((List.length z0):Int)
abbrev QV(z0)(z1)(z2)(z3)(z4)(z5)(z6)(z7)(z8)(z9)(z10)(z11)(z12)(z13)(z14)(z15)(z16)(z17):=Value.agg #[.int .u8 ((z0:Nat):Int),.int .u8 ((z1:Nat):Int),XM z2,XM z3,XM z4,XM z5,XM z6,XM z7,XM z8,XM z9,XM z10,XM z11,XM z12,XM z13,XM z14,XM z15,XM z16,XM z17]
abbrev tW(m)(z0)(z1)(z2):=Rd m z0 z1 8 (List.length z2) (List.map XK z2)
abbrev Ta(z0)(z1)(z2){β3:Type}(z3:XB β3)(z4):=Pc.obj z0 (.cells [.int .u8 ((z1:Nat):Int),.slice z2 (List.length z3) z4] .own)
abbrev FL(z0)(z1):=Pc.sl z0 16 (List.length z1) (List.map XL z1)
abbrev eL(z0)(z1){β2:Type}(z2:XB β2)(z3):=Value.agg #[.bool z0,.slice z1 (List.length z2) z3]
abbrev A7(z0){β1:Type}(z1:XB β1)(z2):=Pc.arr z0 1 (((List.length z1):Int).toNat) (List.map XJ z2) .own
abbrev PN(z0)(z1)(z2){β3:Type}(z3:XB β3)(z4):=Pc.rd (some ⟨z0,z1,none⟩) z2 1 (List.length z3) z4
abbrev lr(z0)(z1){β2:Type}(z2:XB β2)(z3):=Value.slice (some ⟨z0,z1,none⟩) (List.length z2) z3
abbrev zo(z0)(z1)(z2):=Pc.rd z0 z1 8 (List.length z2) (List.map XK z2)
abbrev bz(z0):=Value.bool z0
abbrev Km(z0)(z1)(z2)(z3):=Pc.rd (some ⟨z0,z1,none⟩) z2 16 (List.length z3) (List.map XL z3)
abbrev KX(z0)(z1)(z2)(z3)(z4)(z5)(z6)(z7)(z8):=Pc.obj z0 (.cells [XM z1,XM z2,XM z3,XM z4,XM z5,XM z6,XM z7,XM z8] .own)
abbrev LU(z0)(z1)(z2):=Pc.ro z0 z1 16 (List.length z2) (List.map XL z2)
abbrev B4(z0){β1:Type}(z1:XB β1)(z2):=Pc.sl z0 4 (List.length z1) z2
abbrev CM(z0)(z1)(z2):=Pc.rd z0 z1 8 z1 (List.map XK z2)
abbrev QY(z0):=Pc.obj z0 (.cells [XM 0,XM 0,XM 0,XM 0,XM 0,XM 0,XM 0,XM 0,XM 0,XM 0,XM 0,XM 0,XM 0,XM 0,XM 0,XM 0] .own)
abbrev nh(z0)(z1):=Pc.sl z0 1 (List.length z1) (List.map (eI .i64) z1)
abbrev So(z0)(z1)(z2):=Pc.rd z0 z1 1 (List.length z2) (List.map (eN .u8) z2)
abbrev OE(z0)(z1)(z2)(z3)(z4)(z5)(z6)(z7)(z8)(z9):=Pc.obj z0 (.cells [.bool z1,XM z2,XM z3,XM z4,XM z5,XM z6,XM z7,XM z8,XM z9] .own)
abbrev Pu(z0)(z1){β2:Type}(z2:XB β2)(z3):=Pc.ro z0 z1 1 (List.length z2) z3
abbrev Px(z0){β1:Type}(z1:XB β1)(z2):=Pc.sl z0 1 (List.length z1) z2
abbrev Nt(z0){β1:Type}(z1:XB β1)(z2):=Pc.sl z0 16 (List.length z1) (List.map XL z2)
abbrev rA(z0)(z1)(z2){β3:Type}(z3:XB β3)(z4):=Pc.obj z0 (.cells [.bool z1,.slice z2 (List.length z3) z4] .own)
abbrev FN(z0){β1:Type}(z1:XB β1)(z2):=Pc.arr z0 4 (((List.length z1):Int).toNat) z2 .own
abbrev uu(z0):=Pc.obj z0 (.cells [.bool false,.slice none 0 0] .own)
abbrev Li(z0)(z1){β2:Type}(z2:XB β2)(z3)(z4){β5:Type}(z5:XB β5)(z6)(z7){β8:Type}(z8:XB β8)(z9)(z10){β11:Type}(z11:XB β11):=Value.agg #[.slice (some ⟨z0,z1,none⟩) (List.length z2) z3,.slice z4 (List.length z5) z6,.slice z7 (List.length z8) z9,.slice z10 (List.length z11) (List.length z11)]
abbrev iM(z0)(z1):=Value.slice z0 z1 z1
abbrev rB(m)(z0)(z1){β2:Type}(z2:XB β2)(z3):=Rd m z0 z1 1 (List.length z2) z3
abbrev Fu(z0):=Pc.obj z0 (.cells [.bool false,.slice none 0 0,.bool false,.slice none 0 0] .own)
abbrev Og(z0)(z1):=Pc.rd z0 (List.length z1) 8 (List.length z1) (List.map XK z1)
abbrev NM(z0)(z1):=Pc.sl z0 8 (List.length z1) (List.map XK z1)
abbrev s5(z0)(z1):=Pc.arr z0 1 8 (List.map XJ z1) .own
abbrev vg(z0)(z1)(z2):=Pc.sl z0 1 z1 (List.map XJ z2)
abbrev vq(z0):=Value.int .u16 ((z0:Nat):Int)
abbrev Qx(z0)(z1)(z2):=Pc.sl z0 8 z1 (List.map XK z2)
abbrev Ko(z0)(z1)(z2)(z3):=Pc.rd (some ⟨z0,z1,none⟩) z2 1 (List.length z3) (List.map XJ z3)
abbrev Pg(z0)(z1){β2:Type}(z2:XB β2)(z3):=Value.agg #[.int .u8 ((z0:Nat):Int),.slice z1 (List.length z2) z3]
abbrev Hz(z0){β1:Type}(z1:XB β1):=Value.slice (some ⟨z0,0,none⟩) (List.length z1) (List.length z1)
abbrev Ga(z0){β1:Type}(z1:XB β1)(z2):=Pc.rd z0 (List.length z1) 1 (List.length z1) z2
abbrev O9(m)(z0)(z1)(z2):=Rd m z0 z1 1 (List.length z2) (List.map (eN .u8) z2)
abbrev KW(z0)(z1)(z2):=Pc.ro z0 z1 1 (List.length z2) (List.map XJ z2)
abbrev iq{τ0:Type}(z0)(z1)(z2:XB τ0)(z3)(z4:Rep τ0)(z5)(z:XB Pc):=BN z0 z1 z2 z3::mZ z4 z5 z2 z3::z
abbrev BF{τ0:Type}(z0)(z1)(z2:XB τ0)(z3)(z4:Rep τ0)(z5)(z6)(z:XB Pc):=Pu z0 z1 z2 z3::mZ z4 z5 z2 z3::PN z0 z1 z6 z2 z3::z
abbrev DD(z0)(z1)(z2)(z3)(z4)(z5)(z6)(z7)(z8)(z:XB Pc):=GP z0 z1 z2 z3 z4 z5 z6 z7 z8::cY z2 z4 z3::cY z6 z8 z7::z
abbrev Gv(z0)(z1)(z2)(z3)(z4)(z5)(z6)(z7)(z8)(z:XB Pc):=GP z0 z1 z2 z3 z4 z5 z6 z7 z8::di z2 z4 z3::di z6 z8 z7::z
abbrev oQ{τ0:Type}(z0)(z1:XB τ0)(z2)(z3:Rep τ0)(z4)(z:XB Pc):=B4 z0 z1 z2::mZ z3 z4 z1 z2::z
abbrev nF{τ0:Type}(z0)(z1:XB τ0)(z2)(z3:Rep τ0)(z4)(z:XB Pc):=Px z0 z1 z2::mZ z3 z4 z1 z2::z
abbrev tX{τ0:Type}{τ1:Type}(z0)(z1:XB τ0)(z2)(z3)(z4:XB τ1)(z5)(z:Fs):=(0,bg z0 z1 z2)::(1,bg z3 z4 z5)::z
abbrev wg(z0)(z1)(z2)(z3)(z4)(z:XB Pc):=Ta z0 z1 z2 z3 z4::So z2 z4 z3::z
abbrev O7{τ0:Type}(z0)(z1)(z2)(z3:XB τ0)(z4)(z:Fs):=(1,ptr z0 0)::(3,bH z1)::(4,cF z2 z3)::(5,bH z4)::z
abbrev aH:Rep (XB XN):=(rS XL 16)
def SX:TyI al.P 61 true 2:=⟨by kernel_rfl,by kernel_rfl,by kernel_rfl⟩
instance:TyC al.P 61 true 2:=⟨SX⟩
def J9:∀b o,aR al.P 61 (ptr b o) 0=some (ptr b (o+0)):=fun _ _=>by kernel_rfl
instance:FaC al.P 61 0 0:=⟨J9⟩
def QW:TyI al.P 5 false 1:=⟨by kernel_rfl,by kernel_rfl,by kernel_rfl⟩
instance:TyC al.P 5 false 1:=⟨QW⟩
def u5:al.P.underlying 5=some (.int .u8):=by kernel_rfl
def u3:al.P.underlying 3=some (.int .i64):=by kernel_rfl
def B7:∀b o,aR al.P 61 (ptr b o) 1=some (ptr b (o+1)):=fun _ _=>by kernel_rfl
instance:FaC al.P 61 1 1:=⟨B7⟩
def Pz:TyI al.P 26 false 1:=⟨by kernel_rfl,by kernel_rfl,by kernel_rfl⟩
instance:TyC al.P 26 false 1:=⟨Pz⟩
def Tv:al.P.underlying 26=some (.slice 5):=by kernel_rfl
instance:UsC al.P 26 5:=⟨Tv⟩
def Ql:SlT al.P 26 5 1:=SlT.of (by kernel_rfl)
instance:SlC al.P 26 5 1:=⟨Ql⟩
def GY:al.P.underlying 36=some (.slice 3):=by kernel_rfl
instance:UsC al.P 36 3:=⟨GY⟩
def lh:SlT al.P 36 3 1:=SlT.of (by kernel_rfl)
instance:SlC al.P 36 3 1:=⟨lh⟩
def z3:bR al.P 3=some (.int .i64 0):=by kernel_rfl
def Gp:TyI al.P 3 false 1:=⟨by kernel_rfl,by kernel_rfl,by kernel_rfl⟩
instance:TyC al.P 3 false 1:=⟨Gp⟩
def z68:bR al.P 68=some (.agg #[XM 0,XM 0,XM 0,XM 0,XM 0,XM 0,XM 0,XM 0,XM 0,XM 0,XM 0,XM 0,XM 0,XM 0,XM 0,XM 0]):=by kernel_rfl
def Kc:BdT al.P 68 (.agg #[XM 0,XM 0,XM 0,XM 0,XM 0,XM 0,XM 0,XM 0,XM 0,XM 0,XM 0,XM 0,XM 0,XM 0,XM 0,XM 0]) [(0,8),(8,8)]:=.mk' (by kernel_rfl) (by kernel_rfl)
def jF:TyI al.P 68 true 16:=⟨by kernel_rfl,by kernel_rfl,by kernel_rfl⟩
instance:TyC al.P 68 true 16:=⟨jF⟩
def iW:bR al.P 187=some (.agg #[.bool false,.slice none 0 0,.bool false,.slice none 0 0]):=by kernel_rfl
def ig:bR al.P 165=some (.agg #[.bool false,.slice none 0 0]):=by kernel_rfl
def DU:al.P.underlying 53=some (.int .u64):=by kernel_rfl
def EJ:BdT al.P 165 (.agg #[.bool false,.slice none 0 0]) [(0,1),(1,1)]:=.mk' (by kernel_rfl) (by kernel_rfl)
def bL:TyI al.P 165 true 2:=⟨by kernel_rfl,by kernel_rfl,by kernel_rfl⟩
instance:TyC al.P 165 true 2:=⟨bL⟩
def il:∀b o,aR al.P 165 (ptr b o) 1=some (ptr b (o+1)):=fun _ _=>by kernel_rfl
instance:FaC al.P 165 1 1:=⟨il⟩
def xu:TyI al.P 36 false 1:=⟨by kernel_rfl,by kernel_rfl,by kernel_rfl⟩
instance:TyC al.P 36 false 1:=⟨xu⟩
def im:∀b o,aR al.P 165 (ptr b o) 0=some (ptr b (o+0)):=fun _ _=>by kernel_rfl
instance:FaC al.P 165 0 0:=⟨im⟩
def Au:TyI al.P 4 false 1:=⟨by kernel_rfl,by kernel_rfl,by kernel_rfl⟩
instance:TyC al.P 4 false 1:=⟨Au⟩
def u4:al.P.underlying 4=some (.bool):=by kernel_rfl
def D3:BdT al.P 187 (.agg #[.bool false,.slice none 0 0,.bool false,.slice none 0 0]) [(0,2),(2,2)]:=.mk' (by kernel_rfl) (by kernel_rfl)
def cR:TyI al.P 187 true 4:=⟨by kernel_rfl,by kernel_rfl,by kernel_rfl⟩
instance:TyC al.P 187 true 4:=⟨cR⟩
def gB:∀b o,aR al.P 187 (ptr b o) 0=some (ptr b (o+0)):=fun _ _=>by kernel_rfl
instance:FaC al.P 187 0 0:=⟨gB⟩
def vI:bR al.P 55=some (.agg #[XM 0,XM 0,XM 0,XM 0,XM 0,XM 0,XM 0,XM 0]):=by kernel_rfl
def L2:BdT al.P 55 (.agg #[XM 0,XM 0,XM 0,XM 0,XM 0,XM 0,XM 0,XM 0]) [(0,1),(1,1),(2,1),(3,1),(4,1),(5,1),(6,1),(7,1)]:=.mk' (by kernel_rfl) (by kernel_rfl)
def kY:TyI al.P 55 true 8:=⟨by kernel_rfl,by kernel_rfl,by kernel_rfl⟩
instance:TyC al.P 55 true 8:=⟨kY⟩
def Gi:ArT al.P 55 53 8 1:=⟨by kernel_rfl,by kernel_rfl,by kernel_rfl⟩
instance:ArC al.P 55 53 8 1:=⟨Gi⟩
def lA:TyI al.P 53 false 1:=⟨by kernel_rfl,by kernel_rfl,by kernel_rfl⟩
instance:TyC al.P 53 false 1:=⟨lA⟩
def fm:∀b o,aR al.P 187 (ptr b o) 1=some (ptr b (o+2)):=fun _ _=>by kernel_rfl
instance:FaC al.P 187 1 2:=⟨fm⟩
def Re:al.P.underlying 72=some (.slice 68):=by kernel_rfl
instance:UsC al.P 72 68:=⟨Re⟩
def uS:SlT al.P 72 68 16:=SlT.of (by kernel_rfl)
instance:SlC al.P 72 68 16:=⟨uS⟩
def z72:bR al.P 72=some (.slice none 0 0):=by kernel_rfl
def lz:SlT al.P 46 72 1:=SlT.of (by kernel_rfl)
instance:SlC al.P 46 72 1:=⟨lz⟩
def Lu:al.P.underlying 46=some (.slice 72):=by kernel_rfl
instance:UsC al.P 46 72:=⟨Lu⟩
def nm:TyI al.P 72 false 1:=⟨by kernel_rfl,by kernel_rfl,by kernel_rfl⟩
instance:TyC al.P 72 false 1:=⟨nm⟩
def QE:TyI al.P 70 true 18:=⟨by kernel_rfl,by kernel_rfl,by kernel_rfl⟩
instance:TyC al.P 70 true 18:=⟨QE⟩
abbrev iF:Orp aH:=(oS XL 16)
def OO:∀b o,aR al.P 70 (ptr b o) 1=some (ptr b (o+1)):=fun _ _=>by kernel_rfl
instance:FaC al.P 70 1 1:=⟨OO⟩
def Pl:∀b o,aR al.P 70 (ptr b o) 0=some (ptr b (o+0)):=fun _ _=>by kernel_rfl
instance:FaC al.P 70 0 0:=⟨Pl⟩
def Ob:∀b o,aR al.P 70 (ptr b o) 2=some (ptr b (o+2)):=fun _ _=>by kernel_rfl
instance:FaC al.P 70 2 2:=⟨Ob⟩
def S7:ArT al.P 87 46 3 1:=⟨by kernel_rfl,by kernel_rfl,by kernel_rfl⟩
instance:ArC al.P 87 46 3 1:=⟨S7⟩
def iZ:bR al.P 158=some (.agg #[.bool false,.slice none 0 0]):=by kernel_rfl
def F0:bR al.P 205=some (.agg #[.bool false,XM 0,XM 0,XM 0,XM 0,XM 0,XM 0,XM 0,XM 0]):=by kernel_rfl
def MX:BdT al.P 205 (.agg #[.bool false,XM 0,XM 0,XM 0,XM 0,XM 0,XM 0,XM 0,XM 0]) [(0,1),(1,8)]:=.mk' (by kernel_rfl) (by kernel_rfl)
def MQ:TyI al.P 205 true 9:=⟨by kernel_rfl,by kernel_rfl,by kernel_rfl⟩
instance:TyC al.P 205 true 9:=⟨MQ⟩
def D7:∀b o,aR al.P 205 (ptr b o) 0=some (ptr b (o+0)):=fun _ _=>by kernel_rfl
instance:FaC al.P 205 0 0:=⟨D7⟩
def JK:bR al.P 203=some (.agg #[XM 0,XM 0,XM 0,XM 0,XM 0,XM 0,XM 0,XM 0]):=by kernel_rfl
def JN:BdT al.P 203 (.agg #[XM 0,XM 0,XM 0,XM 0,XM 0,XM 0,XM 0,XM 0]) [(0,1),(1,1),(2,1),(3,1),(4,1),(5,1),(6,1),(7,1)]:=.mk' (by kernel_rfl) (by kernel_rfl)
def DJ:∀b o,aR al.P 205 (ptr b o) 1=some (ptr b (o+1)):=fun _ _=>by kernel_rfl
instance:FaC al.P 205 1 1:=⟨DJ⟩
def Nq:TyI al.P 203 true 8:=⟨by kernel_rfl,by kernel_rfl,by kernel_rfl⟩
instance:TyC al.P 203 true 8:=⟨Nq⟩
def nL:ArT al.P 203 53 8 1:=⟨by kernel_rfl,by kernel_rfl,by kernel_rfl⟩
instance:ArC al.P 203 53 8 1:=⟨nL⟩
def JD:al.P.underlying 154=some (.slice 53):=by kernel_rfl
instance:UsC al.P 154 53:=⟨JD⟩
def mA:SlT al.P 154 53 1:=SlT.of (by kernel_rfl)
instance:SlC al.P 154 53 1:=⟨mA⟩
def A3:BdT al.P 158 (.agg #[.bool false,.slice none 0 0]) [(0,1),(1,1)]:=.mk' (by kernel_rfl) (by kernel_rfl)
def bC:TyI al.P 158 true 2:=⟨by kernel_rfl,by kernel_rfl,by kernel_rfl⟩
instance:TyC al.P 158 true 2:=⟨bC⟩
def z53:bR al.P 53=some (XM 0):=by kernel_rfl
def gj:bR al.P 172=some (.agg #[.bool false,.slice none 0 0,.bool false,.slice none 0 0]):=by kernel_rfl
def zm:∀b o,aR al.P 68 (ptr b o) 0=some (ptr b (o+0)):=fun _ _=>by kernel_rfl
instance:FaC al.P 68 0 0:=⟨zm⟩
def zB:∀b o,aR al.P 68 (ptr b o) 1=some (ptr b (o+8)):=fun _ _=>by kernel_rfl
instance:FaC al.P 68 1 8:=⟨zB⟩
def DV:BdT al.P 172 (.agg #[.bool false,.slice none 0 0,.bool false,.slice none 0 0]) [(0,2),(2,2)]:=.mk' (by kernel_rfl) (by kernel_rfl)
def ca:TyI al.P 172 true 4:=⟨by kernel_rfl,by kernel_rfl,by kernel_rfl⟩
instance:TyC al.P 172 true 4:=⟨ca⟩
def eo:∀b o,aR al.P 172 (ptr b o) 1=some (ptr b (o+2)):=fun _ _=>by kernel_rfl
instance:FaC al.P 172 1 2:=⟨eo⟩
def ju:∀b o,aR al.P 158 (ptr b o) 0=some (ptr b (o+0)):=fun _ _=>by kernel_rfl
instance:FaC al.P 158 0 0:=⟨ju⟩
def kR:∀b o,aR al.P 158 (ptr b o) 1=some (ptr b (o+1)):=fun _ _=>by kernel_rfl
instance:FaC al.P 158 1 1:=⟨kR⟩
def nI:TyI al.P 154 false 1:=⟨by kernel_rfl,by kernel_rfl,by kernel_rfl⟩
instance:TyC al.P 154 false 1:=⟨nI⟩
def fQ:∀b o,aR al.P 172 (ptr b o) 0=some (ptr b (o+0)):=fun _ _=>by kernel_rfl
instance:FaC al.P 172 0 0:=⟨fQ⟩
def u9:al.P.underlying 9=some (.string):=by kernel_rfl
def Tz:al.P.underlying 90=some (.int .u64):=by kernel_rfl
def xx:∀cs:XD WJ,eY al.P 158 (.agg cs) 1=eu al.P 154 cs 1:=fun _=>by kernel_rfl
def Mq:∀cs:XD WJ,eY al.P 172 (.agg cs) 0=eu al.P 158 cs 0:=fun _=>by kernel_rfl
def Sv:SlT al.P 268 4 1:=SlT.of (by kernel_rfl)
instance:SlC al.P 268 4 1:=⟨Sv⟩
def Sx:ArT al.P 89 72 3 1:=⟨by kernel_rfl,by kernel_rfl,by kernel_rfl⟩
instance:ArC al.P 89 72 3 1:=⟨Sx⟩
def SN:ArT al.P 52 3 2 1:=⟨by kernel_rfl,by kernel_rfl,by kernel_rfl⟩
instance:ArC al.P 52 3 2 1:=⟨SN⟩
abbrev bY:Rep XP:=(rP (rF (eB) 1 (rN)) (rP (rS XJ 1) (rP (rF (eB) 1 (rN)) (rS XJ 1))))
def yL:SlT al.P 179 172 4:=SlT.of (by kernel_rfl)
instance:SlC al.P 179 172 4:=⟨yL⟩
def Qu:al.P.underlying 179=some (.slice 172):=by kernel_rfl
instance:UsC al.P 179 172:=⟨Qu⟩
abbrev cG:Rep (Bool×XB Int×Bool×XB Int):=(rP (rF (eB) 1 (rN)) (rP (rS (eI .i64) 1) (rP (rF (eB) 1 (rN)) (rS (eI .i64) 1))))
def ru:SlT al.P 183 187 4:=SlT.of (by kernel_rfl)
instance:SlC al.P 183 187 4:=⟨ru⟩
def Oy:al.P.underlying 183=some (.slice 187):=by kernel_rfl
instance:UsC al.P 183 187:=⟨Oy⟩
def TM:al.P.underlying 55=some (.array 8 53):=by kernel_rfl
def Qz:∀(x0 y0:Nat) (x1 y1:Nat) (x2 y2:Nat) (x3 y3:Nat) (x4 y4:Nat) (x5 y5:Nat) (x6 y6:Nat) (x7 y7:Nat) (x8 y8:Nat) (x9 y9:Nat) (x10 y10:Nat) (x11 y11:Nat) (x12 y12:Nat) (x13 y13:Nat) (x14 y14:Nat) (x15 y15:Nat),lj al.P Op.maxDepth 68 (.agg #[bP x0,bP x1,bP x2,bP x3,bP x4,bP x5,bP x6,bP x7,bP x8,bP x9,bP x10,bP x11,bP x12,bP x13,bP x14,bP x15]) (.agg #[bP y0,bP y1,bP y2,bP y3,bP y4,bP y5,bP y6,bP y7,bP y8,bP y9,bP y10,bP y11,bP y12,bP y13,bP y14,bP y15])=some (decide (x0=y0)&&decide (x1=y1)&&decide (x2=y2)&&decide (x3=y3)&&decide (x4=y4)&&decide (x5=y5)&&decide (x6=y6)&&decide (x7=y7)&&decide (x8=y8)&&decide (x9=y9)&&decide (x10=y10)&&decide (x11=y11)&&decide (x12=y12)&&decide (x13=y13)&&decide (x14=y14)&&decide (x15=y15)):=fun x0 y0 x1 y1 x2 y2 x3 y3 x4 y4 x5 y5 x6 y6 x7 y7 x8 y8 x9 y9 x10 y10 x11 y11 x12 y12 x13 y13 x14 y14 x15 y15=>NH (w:=55) (by kernel_rfl) TM lA.known lA.size lA.agg DU x0 y0 x1 y1 x2 y2 x3 y3 x4 y4 x5 y5 x6 y6 x7 y7 x8 y8 x9 y9 x10 y10 x11 y11 x12 y12 x13 y13 x14 y14 x15 y15
def QB:al.P.eqGuardType al.P.depth 68=false:=by kernel_rfl
def Hx:TyI al.P 46 false 1:=⟨by kernel_rfl,by kernel_rfl,by kernel_rfl⟩
instance:TyC al.P 46 false 1:=⟨Hx⟩
def mH{n l1 a2 c3 r}(hF:pD n l1=some r)(m){H:WI}(hH:∀b,H b->b<m.next)(h4:cB m a2 c3 l1)(h5:∀b,cC a2=some b->¬H b):
 ax al 175 [bg a2 l1 c3] m (fun v m'=>∃x:WH×Nat×Nat,v=.slice x.1 x.2.2 x.2.1/\Hp m m' [.rd x.1 x.2.1 1 x.2.2 (r.map (eI .i64)),aP H]):=by
 unfold pD at hF;refine cw Tryz.func175 (W6 (l0:=[]) (Xb m hH) bM h4 h5) ?_;refine au ?_;refine WX<|W0 ?_;obtain⟨v41,h74,hF⟩:=aa hF;refine ct (fun v41 (_:XC)=>⟨(.exit 0),[(0,bg a2 l1 c3),(3,bH v41)],[di a2 c3 l1,aP H]⟩) v41 ?_ ?_;refine lo h74 () [0,1] (fun v7 _=>⟨.normal,[(0,bg a2 l1 c3),(3,bH v7)],[di a2 c3 l1,aP H]⟩) ?_;clear hF h74;rintro v7 ⟨⟩ r hF;unfold tF at hF;refine WX<|WX ?_;obtain⟨v64,h71,hF⟩:=aa hF;refine ct (fun v64 (_:XC)=>⟨.normal,[(0,bg a2 l1 c3),(3,bH v7),(15,bz v64)],[di a2 c3 l1,aP H]⟩) v64 ?_ ?_;clear hF;revert v64;intro r hF;refine wz ?_;rcases ah hF with⟨h65,hF⟩|⟨h65,hF⟩;refine wz ?_;obtain⟨h66,hF⟩:=bU hF;refine Xc (k:=0) rfl (aG h66) ?_;rintro b67 o68 rfl;refine wz ?_;obtain⟨x69,h70,hF⟩:=aa hF;refine wz ?_;cases hF;exact ae () [1,2];refine wz ?_;cases hF;exact ae () [0,1];rintro⟨⟩;refine W5 ?_;rcases ah hF with⟨h73,hF⟩|⟨h73,hF⟩;refine au ?_;cases hF;exact ae () [0,1];refine wz ?_;cases hF;exact ae () [0,1];rintro⟨⟩;refine au ?_;obtain⟨h76,hF⟩:=aD hF;refine W9 (wo (k:=0) (lo:=0) (hi:=v41) lh rfl rfl rfl rfl h76 (.inl ⟨rfl,rfl⟩) (.inr ⟨_,rfl⟩)) gn rfl ?_;rintro⟨a77,c78⟩;refine au ?_;cases hF;exact ar (a77,c78,(((l1.drop WR).take ((v41:Int).toNat-WR)).length)) [0,2]
def gG{n x1 l2 a3 c4 r}(hF:jY n x1 l2=some r)(m){H:WI}(hH:∀b,H b->b<m.next)(h5:cB m a3 c4 l2)(h6:∀b,cC a3=some b->¬H b):
 ax al 170 [bz x1,bg a3 l2 c4] m (fun v m'=>∃x:WH×Nat×Nat,v=.agg #[.bool r.1,.slice x.1 x.2.2 x.2.1]/\Hp m m' [.rd x.1 x.2.1 1 x.2.2 (r.2.map (eI .i64)),aP H]):=by
 unfold jY at hF;refine cw Tryz.func170 (W6 (l0:=[]) (Xb m hH) bM h5 h6) ?_;refine wz ?_;refine wa ig fun b7=>?_;refine au ?_;obtain⟨l9,h8,hF⟩:=aa hF;refine wv gn (fun m hm=>mH h8 m hm.aj (hm.q 1) (hm.no 1)) ?_;rintro⟨a10,c11,n12⟩;refine W4 (k:=0) rfl ?_;rintro rfl;refine au ?_;rcases ah hF with⟨h13,hF⟩|⟨h13,hF⟩;refine wz ?_;refine WW (eZ rfl ig rfl (eX EJ rfl rfl rfl)) rfl ?_;refine au ?_;cases hF;exact W2 (.cell (k:=1) bL rfl rfl rfl .nil) fun m' hm=>⟨(a10,c11,l9.length),rfl,(ai.an [0,3] rfl rfl) m' hm⟩;refine wz ?_;refine WW (eZ rfl ig rfl (eX EJ rfl rfl rfl)) rfl ?_;refine au ?_;cases hF;exact W2 (.cell (k:=1) bL rfl rfl rfl .nil) fun m' hm=>⟨(a10,c11,l9.length),rfl,(ai.an [0,3] rfl rfl) m' hm⟩
def ql{n x1 r}(hF:Kj n x1=some r)(m){H:WI}(hH:∀b,H b->b<m.next):
 ax al 91 [bH x1] m (fun v m'=>∃x:WH×Nat×Nat,v=.agg #[.bool r.1,.slice x.1 x.2.2 x.2.1]/\Hp m m' [.rd x.1 x.2.1 1 x.2.2 (r.2.map (eI .i64)),aP H]):=by
 unfold Kj at hF;refine cw Tryz.func91 (Xb m hH) ?_;refine wz ?_;refine wa ig fun b2=>?_;refine eO ?_;refine WW (jh rfl (yM (by rw[u3]; rfl) DU rfl)) rfl ?_
 refine wz ?_;refine WX ?_;obtain⟨v4,h6,hF⟩:=aa hF;refine ct (fun v4 (_:XC)=>⟨.normal,[(2,ptr b2 0),(3,.bool (decide (x1<0))),(4,bP v4)],[uu b2,aP H]⟩) v4 ?_ ?_;clear hF;revert v4;intro r hF;refine wz ?_;rcases ah hF with⟨h5,hF⟩|⟨h5,hF⟩;refine wz ?_;refine WW (Mt rfl (N9 rfl _)) rfl ?_;refine wz ?_;cases hF;exact ae () [0,1];refine wz ?_;cases hF;exact ae () [0,1];rintro⟨⟩;refine au ?_;refine WW (aN rfl rfl (kX _ _ (by decide))) rfl<|WW (jh rfl (pq (by rw[DU]; rfl) u3)) rfl ?_
 refine wz ?_;refine WW (aN rfl rfl (lR rfl _ _ (by decide))) rfl<|WW (jh rfl (pq (by rw[DU]; rfl) u3)) rfl<|W9 (fc (es:=([WQ ((v4%4294967296:Nat):Int),WQ ((uw .u64 (v4/4294967296):Nat):Int)]:XB (Int)).map (eI .i64)) lh rfl (fb lh z3 rfl rfl) rfl rfl) gn rfl fun b8=>?_
 obtain⟨⟨r10,l11⟩,h9,hF⟩:=aa hF;refine Xe (ai.close (k:=0) rfl)<|Xe (ai.freeze (k:=0) rfl)<|wv gn (fun m hm=>gG h9 m hm.aj (hm.q 0) (hm.no 0)) ?_;rintro⟨a12,c13,n14⟩;refine W4 (k:=0) rfl ?_;rintro rfl;refine au ?_;cases hF;exact W2 (.cell (k:=2) bL rfl rfl rfl .nil) fun m' hm=>⟨(a12,c13,l11.length),rfl,(ai.an [0,3] rfl rfl) m' hm⟩
def MH{n l1 x6 a2 c3 r}(hF:JI n l1 x6=some r)(m){H:WI}(hH:∀b,H b->b<m.next)(h4:cB m a2 c3 l1)(h5:∀b,cC a2=some b->¬H b):
 ax al 293 [bg a2 l1 c3,bH x6] m (fun v m'=>∃x:WH×Nat×Nat,v=.slice x.1 x.2.2 x.2.1/\Hp m m' [.rd x.1 x.2.1 1 x.2.2 (r.map (eI .i64)),aP H]):=by
 unfold JI at hF;refine cw Tryz.func293 (W6 (l0:=[]) (Xb m hH) bM h4 h5) ?_;refine WX<|WZ<|WW (cW rfl) rfl<|W7<|W5<|WX<|WZ<|WW (cW rfl) rfl<|W7<|W5<|WX<|WX<|WZ<|WW (cW rfl) rfl<|W7<|W5<|W0 ?_;obtain⟨r62,h61,hF⟩:=aa hF;refine ct (fun(v45,l46) (a47:WH)=>⟨(.exit 0),[(1,bH v45),(5,cF a47 l46)],[nh a47 l46,aP H]⟩) r62 ?_ ?_;refine lw h61 none (fun(v24,l25,v27) a26=>⟨.normal,[(0,bg a2 l1 c3),(1,bH v24),(5,cF a26 l25),(6,bH v27)],[di a2 c3 l1,nh a26 l25,aP H]⟩) (ai.trans (ai.nil 1 rfl) (ai.an [1,0,2] rfl rfl)) ?_;clear hF h61;rintro⟨v24,l25,v27⟩ a26 r hF;unfold sF at hF;refine WX<|WX<|WZ<|WW (aI rfl) rfl<|WW (aI rfl) rfl<|WW (td (k:=0) GY rfl rfl (.inl rfl)) rfl<|WW (aN rfl rfl (ga _ _ _)) rfl<|W7<|W5 ?_;rcases ah hF with⟨h48,hF⟩|⟨h48,hF⟩;refine Wk.fW rfl h48<|Wk.skip<|W5<|WX<|W0<|WX<|WZ<|WW (aI rfl) rfl<|WW (aI rfl) rfl ?_;obtain⟨h49,hF⟩:=bU hF;refine Xc (k:=0) rfl (aG h49) ?_;rintro b50 o51 rfl;refine Xj (ew lh rfl rfl h49) gn rfl ?_;obtain⟨x52,h53,hF⟩:=aa hF;refine WW (jD (k:=0) Gp rfl rfl (eH h53) rfl rfl) rfl<|WW (aN rfl rfl (mY _ _ _)) rfl<|WW (aI rfl) rfl<|WW (aN rfl rfl (dv _ _ _)) rfl<|WW (cW rfl) rfl<|W7<|W5<|WX<|WZ<|WW (aI rfl) rfl<|WW (aI rfl) rfl ?_;obtain⟨y54,h55,hF⟩:=aa hF;refine WW (aN rfl rfl ((iV _ _ (by decide)).trans (cI h55))) rfl<|W9 (fc (es:=([y54]:XB (Int)).map (eI .i64)) lh rfl (fb lh z3 rfl rfl) rfl rfl) gn rfl fun b56=>?_
 obtain⟨h57,hF⟩:=aD hF;refine W9 (jr (k:=3) (k2:=0) (xs:=(l25:XB (Int))) (ys:=([y54]:XB (Int))) (MY .i64) lh ⟨_,GY⟩ rfl rfl rfl (.arr _ _ _ _ _) h57) gn rfl fun a58=>?_;refine WW (cW rfl) rfl<|W7<|W5<|WZ<|WW (aI rfl) rfl ?_;obtain⟨y59,h60,hF⟩:=aa hF;refine WW (aN rfl rfl ((mw _ _ (by decide)).trans (cI h60))) rfl<|WW (cW rfl) rfl<|W7<|At.bn<|W5<|WZ<|WW (aI rfl) rfl<|WW (aN rfl rfl (dv _ _ _)) rfl<|WW (cW rfl) rfl<|W7 ?_
 cases hF;exact ae a58 [2,3,4];refine Wk.lN rfl h48<|Wk.exit<|At.te ?_;cases hF;exact ae a26 [1,2];clear h61;obtain⟨v45,l46⟩:=r62;rintro a47;refine At.be<|W5<|WX<|WZ<|WW (aI rfl) rfl<|WW (aI rfl) rfl<|W9 (fc (es:=([v45]:XB (Int)).map (eI .i64)) lh rfl (fb lh z3 rfl rfl) rfl rfl) gn rfl fun b63=>?_;obtain⟨h64,hF⟩:=aD hF;refine W9 (jr (k:=1) (k2:=0) (xs:=(l46:XB (Int))) (ys:=([v45]:XB (Int))) (MY .i64) lh ⟨_,GY⟩ rfl rfl rfl (.arr _ _ _ _ _) h64) gn rfl fun a65=>?_;obtain⟨l67,h66,hF⟩:=aa hF;refine Xe (ai.freeze (k:=1) rfl)<|wv gn (fun m hm=>mH h66 m hm.aj (hm.q 1) (hm.no 1)) ?_;rintro⟨a68,c69,n70⟩;refine W4 (k:=0) rfl ?_;rintro rfl;refine WW (cW rfl) rfl<|W7<|W5<|Wk.ret ?_;obtain rfl:=Ug hF;exact ar (a68,c69,l67.length) [0,3]
def zt{n l1 l5 a2 c3 a6 c7 r}(hF:BL n l1 l5=some r)(m)(h4:cB m a2 c3 l1)(h8:cB m a6 c7 l5):
 ax al 176 [bg a2 l1 c3,bg a6 l5 c7] m (Xp m (.int .i64 r)):=by
 unfold BL at hF;refine cw Tryz.func176 (Xa (Xa (W3 m) bM h4) (cA bM) h8) ?_;refine au ?_;rcases ah hF with⟨h9,hF⟩|⟨h9,hF⟩;refine au ?_;cases hF;exact ar () [];refine au ?_;refine W0 ?_;obtain⟨r43,h42,hF⟩:=aa hF;refine ct (fun(r:Int⊕XC) (g:XC)=>match r,g with|.inl v27,_=>⟨.ret,[(4,bH v27)],[]⟩|.inr _,_=>⟨(.exit 0),[],[]⟩) r43 ?_ ?_
 refine lo h42 () [1,0] (fun v11 _=>⟨.normal,(tX a2 l1 c3 a6 l5 c7 [(5,bH v11)]),[di a2 c3 l1,di a6 c7 l5]⟩) ?_;clear hF h42;rintro v11 ⟨⟩ r hF;unfold nX at hF;refine wz ?_;rcases ah hF with⟨h28,hF⟩|⟨h28,hF⟩;refine au ?_;obtain⟨h29,hF⟩:=bU hF;refine Xc (k:=0) rfl (aG h29) ?_;rintro b30 o31 rfl;refine wz ?_;obtain⟨x32,h33,hF⟩:=aa hF;refine wz ?_;obtain⟨h34,hF⟩:=bU hF;refine Xc (k:=2) rfl (aG h34) ?_;rintro b35 o36 rfl;refine wz ?_;obtain⟨x37,h38,hF⟩:=aa hF;refine wz ?_;rcases ah hF with⟨h39,hF⟩|⟨h39,hF⟩;refine wz ?_;obtain⟨h40,hF⟩:=bU hF;refine wz ?_;obtain⟨h41,hF⟩:=bU hF;refine au ?_;cases hF;exact ae () [];refine au ?_;cases hF;exact ae () [2,3];refine wz ?_;cases hF;exact ae () [];rcases r43 with v27|_;rintro⟨⟩;refine wz ?_;obtain rfl:=Ug hF;exact ar () [];rintro⟨⟩;refine eO ?_;cases hF;exact ar () []
def pC{n l1 l6 a3 c0 a1 c1 r}(hF:uW n l1 l6=some r)(m){H:WI}(hH:∀b,H b->b<m.next)(h4:cB m a3 c0 l1)(h5:∀b,cC a3=some b->¬H b)(h6:cB m a1 c1 l6)(h7:∀b,cC a1=some b->¬H b):
 ax al 174 [bg a3 l1 c0,bg a1 l6 c1] m (fun v m'=>∃x:WH×Nat×Nat,v=.slice x.1 x.2.2 x.2.1/\Hp m m' [.rd x.1 x.2.1 1 x.2.2 (r.map (eI .i64)),aP H]):=by
 unfold uW at hF;refine cw Tryz.func174 (W6 (l0:=[di a3 c0 l1]) (W6 (l0:=[]) (Xb m hH) bM h4 h5) (cA bM) h6 h7) ?_;refine R8 ?_;refine W0 ?_;obtain⟨l3,h0,hF⟩:=aa hF;refine ct (fun l3 (a4:WH)=>⟨(.exit 0),[(5,cF a4 l3)],[nh a4 l3,aP H]⟩) l3 ?_ ?_;refine lw h0 none (fun(l2,v3,v0) a2=>⟨.normal,(tX a3 l1 c0 a1 l6 c1 [(5,cF a2 l2),(6,bH v3),(7,bH v0)]),[di a3 c0 l1,di a1 c1 l6,nh a2 l2,aP H]⟩) (ai.trans (ai.nil 1 rfl) (ai.an [2,1,0,3] rfl rfl)) ?_;clear hF h0;rintro⟨l2,v3,v0⟩ a2 r hF;unfold s9 at hF;refine wz ?_;rcases ah hF with⟨h8,hF⟩|⟨h8,hF⟩;refine au ?_;obtain⟨h9,hF⟩:=bU hF;refine Xc (k:=0) rfl (aG h9) ?_;rintro b0 o3 rfl;refine wz ?_;obtain⟨x3,h17,hF⟩:=aa hF;refine wz ?_;refine WX ?_;obtain⟨v1,h10,hF⟩:=aa hF;refine ct (fun v1 (_:XC)=>⟨.normal,[(0,lr b0 o3 l1 c0),(1,bg a1 l6 c1),(5,cF a2 l2),(7,bH v0),(8,bH v1)],[.ro b0 o3 1 l1.length (l1.map (eI .i64)),.rd (some ⟨b0,o3,none⟩) c0 1 l1.length (l1.map (eI .i64)),di a1 c1 l6,nh a2 l2,aP H]⟩) v1 ?_ ?_;clear hF;revert v1;intro r hF;refine wz ?_;rcases ah hF with⟨h11,hF⟩|⟨h11,hF⟩;refine wz ?_;obtain⟨h12,hF⟩:=bU hF;refine Xc (k:=2) rfl (aG h12) ?_;rintro b1 o4 rfl;refine wz ?_;obtain⟨x4,h18,hF⟩:=aa hF;refine wz ?_;cases hF;exact ae () (Xk 1 5);refine wz ?_;cases hF;exact ae () (Xk 0 5);rintro⟨⟩;refine au ?_;refine WX ?_;obtain⟨r0,h13,hF⟩:=aa hF;refine ct (fun(v4,v2) (_:XC)=>⟨.normal,[(0,lr b0 o3 l1 c0),(1,bg a1 l6 c1),(5,cF a2 l2),(6,bH v4),(7,bH v0),(8,bH v2)],[.ro b0 o3 1 l1.length (l1.map (eI .i64)),.rd (some ⟨b0,o3,none⟩) c0 1 l1.length (l1.map (eI .i64)),di a1 c1 l6,nh a2 l2,aP H]⟩) r0 ?_ ?_;clear hF;revert r0;intro r hF;refine wz ?_;rcases ah hF with⟨h14,hF⟩|⟨h14,hF⟩;refine au ?_;cases hF;exact ae () (Xk 0 5);refine wz ?_;cases hF;exact ae () (Xk 0 5);clear h13;obtain⟨v4,v2⟩:=r0;rintro⟨⟩;refine au ?_;refine W9 (fc (es:=([v2]:XB (Int)).map (eI .i64)) lh rfl (fb lh z3 rfl rfl) rfl rfl) gn rfl fun b2=>?_;obtain⟨h15,hF⟩:=aD hF;refine W9 (jr (k:=4) (k2:=0) (xs:=(l2:XB (Int))) (ys:=([v2]:XB (Int))) (MY .i64) lh ⟨_,GY⟩ rfl rfl rfl (.arr _ _ _ _ _) h15) gn rfl fun a5=>?_;refine au ?_;cases hF;exact ae a5 [2,3,4,5];refine wz ?_;cases hF;exact ae a2 [2,3];rintro a4;refine wz ?_;refine WX<|WZ<|WW (aI rfl) rfl ?_;obtain⟨l4,h16,hF⟩:=aa hF;refine Xe (ai.freeze (k:=0) rfl)<|wv gn (fun m hm=>mH h16 m hm.aj (hm.q 0) (hm.no 0)) ?_;rintro⟨a6,c2,n2⟩;refine W4 (k:=0) rfl ?_;rintro rfl;refine au ?_;obtain rfl:=Ug hF;exact ar (a6,c2,l4.length) [0,2]
def DH{n l1 l6 a1 c0 a2 c1 r}(hF:GS n l1 l6=some r)(m){H:WI}(hH:∀b,H b->b<m.next)(h4:cB m a1 c0 l1)(h7:∀b,cC a1=some b->¬H b)(h8:cB m a2 c1 l6)(h9:∀b,cC a2=some b->¬H b):
 ax al 278 [bg a1 l1 c0,bg a2 l6 c1] m (fun v m'=>∃x:WH×Nat×Nat×WH×Nat×Nat,v=.tuple #[.slice x.1 x.2.2.1 x.2.1,.slice x.2.2.2.1 x.2.2.2.2.2 x.2.2.2.2.1]/\Hp m m' [.rd x.1 x.2.1 1 x.2.2.1 (r.1.map (eI .i64)),.rd x.2.2.2.1 x.2.2.2.2.1 1 x.2.2.2.2.2 (r.2.map (eI .i64)),aP H]):=by
 unfold GS at hF;refine cw Tryz.func278 (W6 (l0:=[di a1 c0 l1]) (W6 (l0:=[]) (Xb m hH) bM h4 h7) (cA bM) h8 h9) ?_;refine eO ?_;rcases ah hF with⟨h10,hF⟩|⟨h10,hF⟩;refine wz ?_;refine W9 (fc (es:=([]:XB (Int)).map (eI .i64)) lh rfl (fb lh z3 rfl rfl) rfl rfl) gn rfl fun b1=>?_;refine WW (aI rfl) rfl ?_;obtain⟨h11,hF⟩:=aD hF;refine Xe (ai.close (k:=0) rfl)<|W9 (jr (k:=0) (k2:=2) (xs:=([]:XB (Int))) (ys:=(l1:XB (Int))) (MY .i64) lh ⟨_,GY⟩ rfl rfl rfl (.rd _ _ _ _ _) h11) gn rfl fun a8=>?_;refine au ?_;cases hF;exact W2 (.tmp rfl (.tmp rfl .nil)) fun m' hm=>⟨(none,0,0,a8,((([]:XB (Int))++l1).length),((([]:XB (Int))++l1).length)),rfl,(ai.trans (ai.Df 1) (ai.trans (ai.freeze (k:=1) rfl) (ai.an [0,1,4] rfl rfl))) m' hm⟩;refine wz ?_;refine WX<|WZ<|WW (aI rfl) rfl<|WW (td (k:=1) GY rfl rfl (.inl rfl)) rfl<|WW (aI rfl) rfl ?_;obtain⟨y2,h12,hF⟩:=aa hF;refine WW (aN rfl rfl ((jl _ _ _).trans (cI h12))) rfl ?_;obtain⟨h13,hF⟩:=aD hF;obtain⟨h14,hF⟩:=aD hF;refine W9 (lG (f:=eI .i64) (z0:=(0:Int)) lh rfl h13 h14 z3 rfl rfl) gn rfl fun b0=>?_;refine au ?_;refine W9 (fc (es:=([]:XB (Int)).map (eI .i64)) lh rfl (fb lh z3 rfl rfl) rfl rfl) gn rfl fun b2=>?_;refine WW (aI rfl) rfl<|WW (aI rfl) rfl<|WW (td (k:=3) GY rfl rfl (.inl rfl)) rfl<|WW (aI rfl) rfl ?_;obtain⟨y3,h15,hF⟩:=aa hF;refine WW (aN rfl rfl ((jl _ _ _).trans (cI h15))) rfl ?_;obtain⟨h16,hF⟩:=aD hF;refine W9 (wo (k:=3) (lo:=y3) (hi:=(l1.length:Int)) lh rfl rfl rfl rfl h16 (.inr ⟨_,rfl⟩) (.inl ⟨rfl,rfl⟩)) gn rfl ?_;rintro⟨a13,c10⟩;obtain⟨h17,hF⟩:=aD hF;refine Xe (ai.close (k:=1) rfl)<|W9 (jr (k:=1) (k2:=0) (xs:=([]:XB (Int))) (ys:=(((l1.drop (y3:Int).toNat).take (((l1.length:Int):Int).toNat-(y3:Int).toNat)):XB (Int))) (MY .i64) lh ⟨_,GY⟩ rfl rfl rfl (.rd _ _ _ _ _) h17) gn rfl fun a9=>?_;refine au ?_;refine W0 ?_;obtain⟨r1,h0,hF⟩:=aa hF;refine ct (fun(l3,l2) ((a4,c3):WH×Nat)=>⟨(.exit 0),[(7,.slice (some ⟨b0,0,none⟩) y2.toNat y2.toNat),(8,bg a4 l2 c3)],[.arr b0 1 y2.toNat (l3.map (eI .i64)) .own,di a4 c3 l2,aP H]⟩) r1 ?_ ?_;refine lw h0 (a9,(([]:XB (Int))++((l1.drop (y3:Int).toNat).take (((l1.length:Int):Int).toNat-(y3:Int).toNat))).length) (fun(l10,l4,v0) ((a3,c2):WH×Nat)=>⟨.normal,(tX a1 l1 c0 a2 l6 c1 [(7,.slice (some ⟨b0,0,none⟩) y2.toNat y2.toNat),(8,bg a3 l4 c2),(9,bH v0)]),[di a1 c0 l1,di a2 c1 l6,.arr b0 1 y2.toNat (l10.map (eI .i64)) .own,di a3 c2 l4,aP H]⟩) (ai.trans (ai.freeze (k:=1) rfl) (ai.an [4,3,2,1,5] rfl rfl)) ?_;clear hF h0;rintro⟨l10,l4,v0⟩ ⟨a3,c2⟩ r hF;unfold tG at hF;refine wz ?_;rcases ah hF with⟨h18,hF⟩|⟨h18,hF⟩;refine au ?_;refine W0 ?_;obtain⟨r3,h5,hF⟩:=aa hF;refine ct (fun(l11,l7) ((a5,c4):WH×Nat)=>⟨(.exit 2),(tX a1 l1 c0 a2 l6 c1 [(7,.slice (some ⟨b0,0,none⟩) y2.toNat y2.toNat),(8,bg a5 l7 c4),(9,bH v0)]),[di a1 c0 l1,di a2 c1 l6,.arr b0 1 y2.toNat (l11.map (eI .i64)) .own,di a5 c4 l7,aP H]⟩) r3 ?_ ?_;refine lo h5 (a3,c2) [0,1,2,3,4] (fun(l12,l8,v1) ((a6,c5):WH×Nat)=>⟨.normal,(tX a1 l1 c0 a2 l6 c1 [(7,.slice (some ⟨b0,0,none⟩) y2.toNat y2.toNat),(8,bg a6 l8 c5),(9,bH v0),(10,bH v1)]),[di a1 c0 l1,di a2 c1 l6,.arr b0 1 y2.toNat (l12.map (eI .i64)) .own,di a6 c5 l8,aP H]⟩) ?_;clear hF h5;rintro⟨l12,l8,v1⟩ ⟨a6,c5⟩ r hF;unfold qb at hF;refine wz ?_;rcases ah hF with⟨h6,hF⟩|⟨h6,hF⟩;refine wz ?_;refine WX ?_;obtain⟨r0,h19,hF⟩:=aa hF;refine ct (fun(l13,l9) ((a7,c6):WH×Nat)=>⟨.normal,(tX a1 l1 c0 a2 l6 c1 [(7,.slice (some ⟨b0,0,none⟩) y2.toNat y2.toNat),(8,bg a7 l9 c6),(9,bH v0),(10,bH v1)]),[di a1 c0 l1,di a2 c1 l6,.arr b0 1 y2.toNat (l13.map (eI .i64)) .own,di a7 c6 l9,aP H]⟩) r0 ?_ ?_;clear hF;revert r0;intro r hF;refine wz ?_;obtain⟨h20,hF⟩:=bU hF;refine Xc (k:=0) rfl (aG h20) ?_;rintro b3 o3 rfl;refine wz ?_;obtain⟨x4,h27,hF⟩:=aa hF;refine wz ?_;refine WW (aN rfl rfl (OZ _ _ h6)) rfl<|WW (aN rfl rfl (iV _ _ (by decide))) rfl ?_
 obtain⟨l15,h21,hF⟩:=aa hF;refine wv gn (fun m hm=>MH h21 m hm.aj (hm.q 4) (hm.no 4)) ?_;rintro⟨a10,c7,n2⟩;refine W4 (k:=0) rfl ?_;rintro rfl;refine au ?_;obtain⟨r4,h22,hF⟩:=aa hF;refine wc gn (fun m hm=>zt h22 m (hm.q 0) (hm.q 3)) ?_;rintro⟨⟩;refine wz ?_;rcases ah hF with⟨h23,hF⟩|⟨h23,hF⟩;refine wz ?_;obtain⟨l16,h24,hF⟩:=aa hF;refine wv gn (fun m hm=>pC h24 m hm.aj (hm.q 0) (hm.no 0) (hm.q 3) (hm.no 3)) ?_;rintro⟨a11,c8,n3⟩;refine W4 (k:=0) rfl ?_;rintro rfl;refine au ?_;obtain⟨h28,hF⟩:=bU hF;refine wz ?_;obtain⟨x3,h25,hF⟩:=aa hF;refine wz ?_;refine WW (aN rfl rfl (OT _ _ h6)) rfl ?_;refine wz ?_;obtain⟨h29,hF⟩:=bU hF;refine wz ?_;refine Xi (eG (k:=5) (x1:=x3) (x2:=WQ (x3+(Dh .i64 1 v1.toNat))) Gp rfl rfl rfl h25 rfl) ?_;refine wz ?_;cases hF;exact ae (a11,c8) [3,4,5,0,7];refine wz ?_;cases hF;exact ae (a10,c7) [2,3,4,0,6];clear h19;obtain⟨l13,l9⟩:=r0;rintro⟨a7,c6⟩;refine au ?_;cases hF;exact ae (a7,c6) (Xk 0 5);refine wz ?_;cases hF;exact ae (a6,c5) (Xk 0 5);clear h5;obtain⟨l11,l7⟩:=r3;rintro⟨a5,c4⟩;refine au ?_;cases hF;exact ae (a5,c4) (Xk 0 5);refine wz ?_;cases hF;exact ae (a3,c2) [2,3,4];clear h0;obtain⟨l3,l2⟩:=r1;rintro⟨a4,c3⟩;refine wz ?_;refine WX<|WZ<|WW (aI rfl) rfl ?_;obtain⟨l14,h26,hF⟩:=aa hF;refine Xe (ai.close (k:=0) rfl)<|Xe (ai.freeze (k:=0) rfl) ?_;have hFx:=hF;refine W4 (k:=0) (xs:=(l3:XB (Int))) rfl ?_;generalize y2.toNat=nN;rintro rfl;replace hF:=hFx;clear hFx;refine wv gn (fun m hm=>mH h26 m hm.aj (hm.q 0) (hm.no 0)) ?_;rintro⟨a12,c9,n5⟩;refine W4 (k:=0) rfl ?_;rintro rfl;refine au ?_;cases hF;exact ar (a12,c9,l14.length,a4,c3,l2.length) [0,2,3]
def EB{n x1 l2 x7 l8 a3 c4 a9 c10 r}(hF:GA n x1 l2 x7 l8=some r)(m){H:WI}(hH:∀b,H b->b<m.next)(h5:cB m a3 c4 l2)(h6:∀b,cC a3=some b->¬H b)(h11:cB m a9 c10 l8)(h12:∀b,cC a9=some b->¬H b):
 ax al 242 [eL x1 a3 l2 c4,eL x7 a9 l8 c10] m (fun v m'=>∃x:WH×Nat×Nat,v=.agg #[.bool r.1,.slice x.1 x.2.2 x.2.1]/\Hp m m' [.rd x.1 x.2.1 1 x.2.2 (r.2.map (eI .i64)),aP H]):=by
 unfold GA at hF;refine cw Tryz.func242 (W6 (l0:=[di a3 c4 l2]) (W6 (l0:=[]) (Xb m hH) bM h5 h6) (cA bM) h11 h12) ?_;refine wz ?_;refine wb fun b13=>?_;refine wb fun b14=>?_;refine wa ig fun b15=>?_;refine au ?_;refine WX<|W0 ?_;obtain⟨l48,h61,hF⟩:=aa hF;refine ct (fun l48 ((a49,c50):WH×Nat)=>⟨(.exit 0),[(4,ptr b15 0),(5,bg a49 l48 c50)],[uu b15,di a49 c50 l48,aP H]⟩) l48 ?_ ?_;refine lo h61 (a3,c4,a9,c10) [0,4,3,5] (fun(l26,l29) ((a27,c28,a30,EN):WH×Nat×WH×Nat)=>⟨.normal,[(4,ptr b15 0),(5,bg a27 l26 c28),(6,bg a30 l29 EN)],[uu b15,di a27 c28 l26,di a30 EN l29,aP H]⟩) ?_;clear hF h61;rintro⟨l26,l29⟩ ⟨a27,c28,a30,EN⟩ r hF;unfold sL at hF;refine wz ?_;rcases ah hF with⟨h51,hF⟩|⟨h51,hF⟩;refine au ?_;obtain⟨⟨l53,l57⟩,h52,hF⟩:=aa hF;refine kL gn (fun m hm=>DH h52 m hm.aj (hm.q 1) (hm.no 1) (hm.q 2) (hm.no 2)) ?_;rintro⟨a54,c55,n56,a58,c59,n60⟩;refine W4 (k:=0) rfl ?_;rintro rfl;refine W4 (k:=1) rfl ?_;rintro rfl;refine au ?_;cases hF;exact ae (a30,EN,a58,c59) [2,4,1,5];refine wz ?_;cases hF;exact ae (a27,c28) [0,1,3];rintro⟨a49,c50⟩;refine au ?_;refine WW (eZ rfl ig rfl (eX EJ rfl rfl rfl)) rfl ?_;refine au ?_;cases hF;exact W2 (.cell (k:=0) bL rfl rfl rfl .nil) fun m' hm=>⟨(a49,c50,l48.length),rfl,(ai.an [1,2] rfl rfl) m' hm⟩
def yx{n x1 l2 a3 c4 r}(hF:Dl n x1 l2=some r)(m){H:WI}(hH:∀b,H b->b<m.next)(h5:cB m a3 c4 l2)(h6:∀b,cC a3=some b->¬H b):
 ax al 243 [eL x1 a3 l2 c4] m (fun v m'=>∃x:WH×Nat×Nat,v=.agg #[.bool r.1,.slice x.1 x.2.2 x.2.1]/\Hp m m' [.rd x.1 x.2.1 1 x.2.2 (r.2.map (eI .i64)),aP H]):=by
 unfold Dl at hF;refine cw Tryz.func243 (W6 (l0:=[]) (Xb m hH) bM h5 h6) ?_;refine wz ?_;refine wb fun b7=>?_;refine wa ig fun b8=>?_;refine au ?_;obtain⟨⟨r10,l11⟩,h9,hF⟩:=aa hF;refine wv gn (fun m hm=>gG h9 m hm.aj (hm.q 2) (hm.no 2)) ?_;rintro⟨a12,c13,n14⟩;refine W4 (k:=0) rfl ?_;rintro rfl;refine au ?_;cases hF;exact W2 (.cell (k:=1) bL rfl rfl rfl .nil) fun m' hm=>⟨(a12,c13,l11.length),rfl,(ai.an [0,4] rfl rfl) m' hm⟩
def KJ{n l1 l5 a1 c0 a2 c1 r}(hF:Fw n l1 l5=some r)(m)(h4:cB m a1 c0 l1)(h5:cB m a2 c1 l5):
 ax al 245 [bg a1 l1 c0,bg a2 l5 c1] m (fun v m'=>∃x:WH×Nat,v=.slice x.1 x.2 x.2/\Hp m m' [.sl x.1 1 x.2 (r.map (eI .i64))]):=by
 unfold Fw at hF;refine cw Tryz.func245 (Xa (Xa (W3 m) bM h4) (cA bM) h5) ?_;refine R8 ?_;refine W0 ?_;obtain⟨l3,h0,hF⟩:=aa hF;refine ct (fun l3 (a4:WH)=>⟨(.exit 0),[(5,cF a4 l3)],[nh a4 l3]⟩) l3 ?_ ?_;refine lw h0 none (fun(l2,v4,v1) a3=>⟨.normal,(tX a1 l1 c0 a2 l5 c1 [(5,cF a3 l2),(6,bH v4),(7,bH v1)]),[di a1 c0 l1,di a2 c1 l5,nh a3 l2]⟩) (ai.trans (ai.nil 1 rfl) (ai.an [2,1,0] rfl rfl)) ?_;clear hF h0;rintro⟨l2,v4,v1⟩ a3 r hF;unfold uk at hF;refine WX<|WX ?_;obtain⟨v2,h6,hF⟩:=aa hF;refine ct (fun v2 (_:XC)=>⟨.normal,(tX a1 l1 c0 a2 l5 c1 [(5,cF a3 l2),(6,bH v4),(7,bH v1),(21,bz v2)]),[di a1 c0 l1,di a2 c1 l5,nh a3 l2]⟩) v2 ?_ ?_;clear hF;revert v2;intro r hF;refine wz ?_;rcases ah hF with⟨h7,hF⟩|⟨h7,hF⟩;refine wz ?_;cases hF;exact ae () [0,1,2];refine wz ?_;rcases ah hF with⟨h8,hF⟩|⟨h8,hF⟩;refine wz ?_;cases hF;exact ae () [0,1,2];refine wz ?_;cases hF;exact ae () [0,1,2];rintro⟨⟩;refine W5 ?_;rcases ah hF with⟨h9,hF⟩|⟨h9,hF⟩;refine wz ?_;refine WX<|W0<|WX ?_;obtain⟨v3,h10,hF⟩:=aa hF;refine ct (fun v3 (_:XC)=>⟨.normal,(tX a1 l1 c0 a2 l5 c1 [(5,cF a3 l2),(6,bH v3),(7,bH v1)]),[di a1 c0 l1,di a2 c1 l5,nh a3 l2]⟩) v3 ?_ ?_;clear hF;revert v3;intro r hF;refine wz ?_;rcases ah hF with⟨h11,hF⟩|⟨h11,hF⟩;refine wz ?_;obtain⟨h12,hF⟩:=bU hF;refine Xc (k:=0) rfl (aG h12) ?_;rintro b0 o3 rfl;refine wz ?_;obtain⟨x3,h17,hF⟩:=aa hF;refine wz ?_;cases hF;exact ae () [1,2,3];refine wz ?_;obtain rfl:=Ug hF;exact ae () [0,1,2];rintro⟨⟩;refine W5<|WX ?_;obtain⟨v0,h13,hF⟩:=aa hF;refine ct (fun v0 (_:XC)=>⟨.normal,(tX a1 l1 c0 a2 l5 c1 [(5,cF a3 l2),(6,bH v0),(7,bH v1)]),[di a1 c0 l1,di a2 c1 l5,nh a3 l2]⟩) v0 ?_ ?_;clear hF;revert v0;intro r hF;refine wz ?_;rcases ah hF with⟨h14,hF⟩|⟨h14,hF⟩;refine wz ?_;obtain⟨h15,hF⟩:=bU hF;refine Xc (k:=1) rfl (aG h15) ?_;rintro b1 o4 rfl;refine wz ?_;obtain⟨x4,h18,hF⟩:=aa hF;refine wz ?_;cases hF;exact ae () [1,2,3];refine wz ?_;obtain rfl:=Ug hF;exact ae () [0,1,2];rintro⟨⟩;refine au ?_;refine WW (aN rfl rfl (iV _ _ (by decide))) rfl<|W9 (fc (es:=([Int.tmod v0 4294967296]:XB (Int)).map (eI .i64)) lh rfl (fb lh z3 rfl rfl) rfl rfl) gn rfl fun b2=>?_
 obtain⟨h16,hF⟩:=aD hF;refine W9 (jr (k:=3) (k2:=0) (xs:=(l2:XB (Int))) (ys:=([Int.tmod v0 4294967296]:XB (Int))) (MY .i64) lh ⟨_,GY⟩ rfl rfl rfl (.arr _ _ _ _ _) h16) gn rfl fun a5=>?_;refine au ?_;refine WW (aN rfl rfl (mw _ _ (by decide))) rfl ?_
 refine au ?_;cases hF;exact ae a5 [1,2,3];refine wz ?_;cases hF;exact ae a3 [2];rintro a4;refine eO ?_;obtain rfl:=Ug hF;exact ar (a4,l3.length) [0]
def rQ{n x1 l2 x7 l8 a3 c4 a9 c10 r}(hF:rE n x1 l2 x7 l8=some r)(m){H:WI}(hH:∀b,H b->b<m.next)(h5:cB m a3 c4 l2)(h6:∀b,cC a3=some b->¬H b)(h11:cB m a9 c10 l8)(h12:∀b,cC a9=some b->¬H b):
 ax al 189 [eL x1 a3 l2 c4,eL x7 a9 l8 c10] m (fun v m'=>∃x:WH×Nat×Nat,v=.agg #[.bool r.1,.slice x.1 x.2.2 x.2.1]/\Hp m m' [.rd x.1 x.2.1 1 x.2.2 (r.2.map (eI .i64)),aP H]):=by
 unfold rE at hF;refine cw Tryz.func189 (W6 (l0:=[di a3 c4 l2]) (W6 (l0:=[]) (Xb m hH) bM h5 h6) (cA bM) h11 h12) ?_;refine wz ?_;refine wb fun b13=>?_;refine wb fun b14=>?_;refine wa ig fun b15=>?_;refine au ?_;refine WW (aN rfl rfl (MW u4)) rfl ?_;refine wz ?_;rcases ah hF with⟨h16,hF⟩|⟨h16,hF⟩;refine Wk.fW rfl h16<|WX<|Xd (prs:=[(1,6)]) (by kernel_rfl)<|WY (bJ (r:=ptr b13 0) rfl (im _ _)) rfl<|WY (aV (k:=2) Au rfl rfl rfl) rfl<|WY (bJ (r:=ptr b13 1) rfl (il _ _)) rfl<|WY (aV (k:=2) xu rfl rfl rfl) rfl<|WY (bJ (r:=ptr b14 1) rfl (il _ _)) rfl<|WY (aV (k:=1) xu rfl rfl rfl) rfl ?_
 obtain⟨l18,h17,hF⟩:=aa hF;refine nc gn (fun m hm=>KJ h17 m (hm.q 4) (hm.q 3)) ?_;rintro⟨a19,n20⟩;refine Wn.len (k:=0) (xs:=l18) rfl ?_;rintro rfl;obtain⟨⟨r22,l23⟩,h21,hF⟩:=aa hF;refine Wn.bT (ai.freeze (k:=0) rfl)<|nv gn (fun m hm=>gG h21 m hm.aj (hm.q 0) (hm.no 0)) ?_;rintro⟨a24,c25,n26⟩;refine W1 (k:=0) rfl ?_;rintro rfl;refine Xf (da (k:=2) bL rfl rfl rfl rfl rfl)<|W8 (fun m hm=>eM.all rfl) ?_;refine au ?_;cases hF;exact W2 (.cell (k:=2) bL rfl rfl rfl .nil) fun m' hm=>⟨(a24,c25,l23.length),rfl,(ai.an [0,7] rfl rfl) m' hm⟩;refine au ?_;obtain⟨r28,h27,hF⟩:=aa hF;refine wc gn (fun m hm=>zt h27 m (hm.q 4) (hm.q 3)) ?_;rintro⟨⟩;refine wz ?_;rcases ah hF with⟨h29,hF⟩|⟨h29,hF⟩;refine Wk.fW rfl h29<|WX<|Xd (prs:=[(1,6)]) (by kernel_rfl)<|WY (bJ (r:=ptr b13 0) rfl (im _ _)) rfl<|WY (aV (k:=2) Au rfl rfl rfl) rfl<|WY (bJ (r:=ptr b13 1) rfl (il _ _)) rfl<|WY (aV (k:=2) xu rfl rfl rfl) rfl<|WY (bJ (r:=ptr b14 1) rfl (il _ _)) rfl<|WY (aV (k:=1) xu rfl rfl rfl) rfl ?_
 obtain⟨l31,h30,hF⟩:=aa hF;refine nv gn (fun m hm=>pC h30 m hm.aj (hm.q 4) (hm.no 4) (hm.q 3) (hm.no 3)) ?_;rintro⟨a32,c33,n34⟩;refine W1 (k:=0) rfl ?_;rintro rfl;obtain⟨⟨r36,l37⟩,h35,hF⟩:=aa hF;refine nv gn (fun m hm=>gG h35 m hm.aj (hm.q 0) (hm.no 0)) ?_;rintro⟨a38,c39,n40⟩;refine W1 (k:=0) rfl ?_;rintro rfl;refine Xf (da (k:=2) bL rfl rfl rfl rfl rfl)<|W8 (fun m hm=>eM.all rfl) ?_;refine au ?_;cases hF;exact W2 (.cell (k:=2) bL rfl rfl rfl .nil) fun m' hm=>⟨(a38,c39,l37.length),rfl,(ai.an [0,7] rfl rfl) m' hm⟩;refine wz ?_;refine WX<|Xd (prs:=[(1,6)]) (by kernel_rfl)<|WY (bJ (r:=ptr b14 0) rfl (im _ _)) rfl<|WY (aV (k:=1) Au rfl rfl rfl) rfl<|WY (bJ (r:=ptr b14 1) rfl (il _ _)) rfl<|WY (aV (k:=1) xu rfl rfl rfl) rfl<|WY (bJ (r:=ptr b13 1) rfl (il _ _)) rfl<|WY (aV (k:=2) xu rfl rfl rfl) rfl ?_
 obtain⟨l42,h41,hF⟩:=aa hF;refine nv gn (fun m hm=>pC h41 m hm.aj (hm.q 3) (hm.no 3) (hm.q 4) (hm.no 4)) ?_;rintro⟨a43,c44,n45⟩;refine W1 (k:=0) rfl ?_;rintro rfl;obtain⟨⟨r47,l48⟩,h46,hF⟩:=aa hF;refine nv gn (fun m hm=>gG h46 m hm.aj (hm.q 0) (hm.no 0)) ?_;rintro⟨a49,c50,n51⟩;refine W1 (k:=0) rfl ?_;rintro rfl;refine Xf (da (k:=2) bL rfl rfl rfl rfl rfl)<|W8 (fun m hm=>eM.all rfl) ?_;refine au ?_;cases hF;exact W2 (.cell (k:=2) bL rfl rfl rfl .nil) fun m' hm=>⟨(a49,c50,l48.length),rfl,(ai.an [0,7] rfl rfl) m' hm⟩
def DP{n x1 l2 x7 l8 a3 c4 a9 c10 r}(hF:FX n x1 l2 x7 l8=some r)(m){H:WI}(hH:∀b,H b->b<m.next)(h5:cB m a3 c4 l2)(h6:∀b,cC a3=some b->¬H b)(h11:cB m a9 c10 l8)(h12:∀b,cC a9=some b->¬H b):
 ax al 241 [eL x1 a3 l2 c4,eL x7 a9 l8 c10] m (fun v m'=>∃x:WH×Nat×Nat,v=.agg #[.bool r.1,.slice x.1 x.2.2 x.2.1]/\Hp m m' [.rd x.1 x.2.1 1 x.2.2 (r.2.map (eI .i64)),aP H]):=by
 unfold FX at hF;refine cw Tryz.func241 (W6 (l0:=[di a3 c4 l2]) (W6 (l0:=[]) (Xb m hH) bM h5 h6) (cA bM) h11 h12) ?_;refine wz ?_;refine wb fun b13=>?_;refine wb fun b14=>?_;refine wa ig fun b15=>?_;refine wz ?_;refine WX<|Xd (prs:=[(0,2)]) (by kernel_rfl)<|WY (aV (k:=2) bL rfl rfl rfl) rfl<|WY (aV (k:=1) bL rfl rfl rfl) rfl ?_
 obtain⟨⟨r17,l18⟩,h16,hF⟩:=aa hF;refine nv gn (fun m hm=>yx h16 m hm.aj (hm.q 3) (hm.no 3)) ?_;rintro⟨a19,c20,n21⟩;refine W1 (k:=0) rfl ?_;rintro rfl;obtain⟨⟨r23,l24⟩,h22,hF⟩:=aa hF;refine nv gn (fun m hm=>rQ h22 m hm.aj (hm.q 5) (hm.no 5) (hm.q 0) (hm.no 0)) ?_;rintro⟨a25,c26,n27⟩;refine W1 (k:=0) rfl ?_;rintro rfl;refine Xf (da (k:=2) bL rfl rfl rfl rfl rfl)<|W8 (fun m hm=>eM.all rfl) ?_;refine au ?_;cases hF;exact W2 (.cell (k:=2) bL rfl rfl rfl .nil) fun m' hm=>⟨(a25,c26,l24.length),rfl,(ai.an [0,7] rfl rfl) m' hm⟩
def Em{n x1 l2 x3 l7 a1 c1 a4 c2 r}(hF:FY n x1 l2 x3 l7=some r)(m){H:WI}(hH:∀b,H b->b<m.next)(h5:cB m a1 c1 l2)(h6:∀b,cC a1=some b->¬H b)(h7:cB m a4 c2 l7)(h8:∀b,cC a4=some b->¬H b):
 ax al 244 [eL x1 a1 l2 c1,eL x3 a4 l7 c2] m (fun v m'=>∃x:WH×Nat×Nat×WH×Nat×Nat,v=.tuple #[.agg #[.bool r.1,.slice x.1 x.2.2.1 x.2.1],.agg #[.bool r.2.2.1,.slice x.2.2.2.1 x.2.2.2.2.2 x.2.2.2.2.1]]/\Hp m m' [.rd x.1 x.2.1 1 x.2.2.1 (r.2.1.map (eI .i64)),.rd x.2.2.2.1 x.2.2.2.2.1 1 x.2.2.2.2.2 (r.2.2.2.map (eI .i64)),aP H]):=by
 unfold FY at hF;refine cw Tryz.func244 (W6 (l0:=[di a1 c1 l2]) (W6 (l0:=[]) (Xb m hH) bM h5 h6) (cA bM) h7 h8) ?_;refine wz ?_;refine wb fun b0=>?_;refine wb fun b5=>?_;refine wa ig fun b1=>?_;refine wa ig fun b2=>?_;refine au ?_;obtain⟨⟨l8,l9⟩,h9,hF⟩:=aa hF;refine kL gn (fun m hm=>DH h9 m hm.aj (hm.q 5) (hm.no 5) (hm.q 4) (hm.no 4)) ?_;rintro⟨a10,c8,n2,a11,c9,n3⟩;refine W4 (k:=0) rfl ?_;rintro rfl;refine W4 (k:=1) rfl ?_;rintro rfl;refine wz ?_;refine WX<|Xd (prs:=[(6,8)]) (by kernel_rfl)<|WY (bJ (r:=ptr b0 0) rfl (im _ _)) rfl<|WY (aV (k:=5) Au rfl rfl rfl) rfl<|WY (bJ (r:=ptr b5 0) rfl (im _ _)) rfl<|WY (aV (k:=4) Au rfl rfl rfl) rfl ?_
 refine WY (aN rfl rfl (A6 u4)) rfl<|WY (aI rfl) rfl ?_;obtain⟨⟨r1,l10⟩,h10,hF⟩:=aa hF;refine nv gn (fun m hm=>gG h10 m hm.aj (hm.q 0) (hm.no 0)) ?_;rintro⟨a6,c4,n5⟩;refine W1 (k:=0) rfl ?_;rintro rfl;refine WY (bJ (r:=ptr b0 0) rfl (im _ _)) rfl<|WY (aV (k:=6) Au rfl rfl rfl) rfl<|WY (aI rfl) rfl ?_;obtain⟨⟨r3,l11⟩,h11,hF⟩:=aa hF;refine nv gn (fun m hm=>gG h11 m hm.aj (hm.q 2) (hm.no 2)) ?_;rintro⟨a7,c5,n7⟩;refine W1 (k:=0) rfl ?_;rintro rfl;refine Wn.x (ua ig rfl) gn rfl fun b3=>?_;refine Wn.x (ua ig rfl) gn rfl fun b4=>?_;refine Xf (da (k:=1) bL rfl rfl rfl rfl rfl)<|Xf (da (k:=0) bL rfl rfl rfl rfl rfl)<|W8 (fun m hm=>eM.all rfl)<|W5<|WX ?_;obtain⟨r0,h12,hF⟩:=aa hF;refine ct (fun(v0,l3,v1,l4) ((a2,I2,a3,c0):WH×Nat×WH×Nat)=>⟨.normal,[(4,ptr b1 0),(5,ptr b2 0),(8,ptr b3 0),(9,ptr b4 0)],[uu b1,uu b2,rA b3 v0 a2 l3 I2,di a2 I2 l3,rA b4 v1 a3 l4 c0,di a3 c0 l4,aP H]⟩) r0 ?_ ?_;clear hF;revert r0;intro r hF;refine wz ?_;rcases ah hF with⟨h13,hF⟩|⟨h13,hF⟩;refine wz ?_;refine WW (eZ rfl ig rfl (eX EJ rfl rfl rfl)) rfl ?_;obtain⟨⟨r4,l12⟩,h14,hF⟩:=aa hF;refine wv gn (fun m hm=>rQ h14 m hm.aj (hm.q 2) (hm.no 2) (hm.q 10) (hm.no 10)) ?_;rintro⟨a5,c3,n8⟩;refine W4 (k:=0) rfl ?_;rintro rfl;refine au ?_;rcases ah hF with⟨h0,hF⟩|⟨h0,hF⟩;refine Wk.fW rfl h0<|Xd (prs:=[(0,1)]) (by kernel_rfl)<|WY (aV (k:=2) bL rfl rfl rfl) rfl ?_
 obtain⟨⟨r5,l13⟩,h15,hF⟩:=aa hF;refine nv gn (fun m hm=>ql h15 m hm.aj) ?_;rintro⟨a12,c10,n9⟩;refine W1 (k:=0) rfl ?_;rintro rfl;obtain⟨⟨r6,l14⟩,h16,hF⟩:=aa hF;refine nv gn (fun m hm=>rQ h16 m hm.aj (hm.q 5) (hm.no 5) (hm.q 0) (hm.no 0)) ?_;rintro⟨a8,c6,n10⟩;refine W1 (k:=0) rfl ?_;rintro rfl;refine Xf (da (k:=4) bL rfl rfl rfl rfl rfl)<|W8 (fun m hm=>eM.all rfl) ?_;cases hF;exact ae (a8,c6,a5,c3) [10,9,4,0,3,2,15];refine Wk.lN rfl h0<|Xd (prs:=[(0,1)]) (by kernel_rfl)<|WY (aV (k:=2) bL rfl rfl rfl) rfl ?_
 obtain⟨⟨r7,l15⟩,h17,hF⟩:=aa hF;refine nv gn (fun m hm=>ql h17 m hm.aj) ?_;rintro⟨a13,c11,n11⟩;refine W1 (k:=0) rfl ?_;rintro rfl;obtain⟨⟨r8,l16⟩,h18,hF⟩:=aa hF;refine nv gn (fun m hm=>DP h18 m hm.aj (hm.q 5) (hm.no 5) (hm.q 0) (hm.no 0)) ?_;rintro⟨a9,c7,n12⟩;refine W1 (k:=0) rfl ?_;rintro rfl;refine Xf (da (k:=4) bL rfl rfl rfl rfl rfl)<|W8 (fun m hm=>eM.all rfl) ?_;cases hF;exact ae (a9,c7,a5,c3) [10,9,4,0,3,2,15];refine wz ?_;cases hF;exact ae (a6,c4,a7,c5) [7,6,1,3,0,2,12];clear h12;obtain⟨v0,l3,v1,l4⟩:=r0;rintro⟨a2,I2,a3,c0⟩;refine W5<|WX<|Xd (prs:=[(1,2)]) (by kernel_rfl)<|WY (aV (k:=2) bL rfl rfl rfl) rfl<|Wn.QC rfl (aV (k:=4) bL rfl rfl rfl) rfl<|Wn.Tu rfl (da (k:=0) bL rfl rfl rfl rfl rfl)<|Xf (da (k:=1) bL rfl rfl rfl rfl rfl)<|W8 (fun m hm=>(eM.rw rfl rfl rfl (hm.ne (i:=4) (j:=0) rfl rfl rfl rfl (by decide) rfl) eM.nil)) ?_
 refine au ?_;cases hF;exact W2 (.cell (k:=0) bL rfl rfl rfl (.cell (k:=1) bL rfl rfl rfl .nil)) fun m' hm=>⟨(a2,I2,l3.length,a3,c0,l4.length),rfl,(ai.an [3,5,6] rfl rfl) m' hm⟩
def rV{n x1 l2 x7 l8 a3 c4 a9 c10 r}(hF:zP n x1 l2 x7 l8=some r)(m){H:WI}(hH:∀b,H b->b<m.next)(h5:cB m a3 c4 l2)(h6:∀b,cC a3=some b->¬H b)(h11:cB m a9 c10 l8)(h12:∀b,cC a9=some b->¬H b):
 ax al 187 [eL x1 a3 l2 c4,eL x7 a9 l8 c10] m (fun v m'=>∃x:WH×Nat×Nat×WH×Nat×Nat,v=.agg #[.bool r.1,.slice x.1 x.2.2.1 x.2.1,.bool r.2.2.1,.slice x.2.2.2.1 x.2.2.2.2.2 x.2.2.2.2.1]/\Hp m m' [.rd x.1 x.2.1 1 x.2.2.1 (r.2.1.map (eI .i64)),.rd x.2.2.2.1 x.2.2.2.2.1 1 x.2.2.2.2.2 (r.2.2.2.map (eI .i64)),aP H]):=by
 unfold zP at hF;refine cw Tryz.func187 (W6 (l0:=[di a3 c4 l2]) (W6 (l0:=[]) (Xb m hH) bM h5 h6) (cA bM) h11 h12) ?_;refine wz ?_;refine wb fun b13=>?_;refine wb fun b14=>?_;refine wa iW fun b15=>?_;refine au ?_;obtain⟨⟨r17,l18⟩,h16,hF⟩:=aa hF;refine wv gn (fun m hm=>EB h16 m hm.aj (hm.q 4) (hm.no 4) (hm.q 3) (hm.no 3)) ?_;rintro⟨a19,c20,n21⟩;refine W4 (k:=0) rfl ?_;rintro rfl;refine wa ig fun b22=>?_;refine wz ?_;refine WX ?_;obtain⟨r42,h41,hF⟩:=aa hF;refine ct (fun(v30,l31) ((a32,c33):WH×Nat)=>⟨.normal,[(2,ptr b13 0),(3,ptr b14 0),(4,ptr b15 0),(5,ptr b22 0)],[rA b13 x1 a3 l2 c4,di a3 c4 l2,rA b14 x7 a9 l8 c10,di a9 c10 l8,Fu b15,rA b22 v30 a32 l31 c33,di a32 c33 l31,aP H]⟩) r42 ?_ ?_;clear hF;revert r42;intro r hF;refine wz ?_;rcases ah hF with⟨h34,hF⟩|⟨h34,hF⟩;refine wz ?_;obtain⟨⟨r36,l37⟩,h35,hF⟩:=aa hF;refine wv gn (fun m hm=>yx h35 m hm.aj (hm.q 1) (hm.no 1)) ?_;rintro⟨a38,c39,n40⟩;refine W4 (k:=0) rfl ?_;rintro rfl;refine wz ?_;cases hF;exact ae (a38,c39) [5,7,4,6,3,1,0,8];refine wz ?_;cases hF;exact ae (a19,c20) [4,6,3,5,2,0,1,7];clear h41;obtain⟨v30,l31⟩:=r42;rintro⟨a32,c33⟩;refine au ?_;obtain⟨⟨r44,l45,r49,l50⟩,h43,hF⟩:=aa hF;refine kL gn (fun m hm=>Em h43 m hm.aj (hm.q 1) (hm.no 1) (hm.q 6) (hm.no 6)) ?_;rintro⟨a46,c47,n48,a51,c52,n53⟩;refine W4 (k:=0) rfl ?_;rintro rfl;refine W4 (k:=1) rfl ?_;rintro rfl;refine wz ?_;refine wa ig fun b54=>?_;refine wa ig fun b55=>?_;refine au ?_;obtain⟨⟨r57,l58,r62,l63⟩,h56,hF⟩:=aa hF;refine kL gn (fun m hm=>Em h56 m hm.aj (hm.q 7) (hm.no 7) (hm.q 10) (hm.no 10)) ?_;rintro⟨a59,c60,n61,a64,c65,n66⟩;refine W4 (k:=0) rfl ?_;rintro rfl;refine W4 (k:=1) rfl ?_;rintro rfl;refine wz ?_;refine wa ig fun b67=>?_;refine wa ig fun b68=>?_;refine au ?_;refine WW (eZ rfl iW rfl (eX D3 rfl rfl rfl)) rfl ?_;refine au ?_;cases hF;exact W2 (.cell (k:=12) cR rfl rfl rfl .nil) fun m' hm=>⟨(a46,c47,l45.length,a59,c60,l58.length),rfl,(ai.an [6,2,15] rfl rfl) m' hm⟩
def sD{n x1 x2 r}(hF:vj n x1 x2=some r)(m){H:WI}(hH:∀b,H b->b<m.next):
 ax al 119 [bH x1,bH x2] m (fun v m'=>∃x:WH×Nat×Nat×WH×Nat×Nat,v=.agg #[.bool r.1,.slice x.1 x.2.2.1 x.2.1,.bool r.2.2.1,.slice x.2.2.2.1 x.2.2.2.2.2 x.2.2.2.2.1]/\Hp m m' [.rd x.1 x.2.1 1 x.2.2.1 (r.2.1.map (eI .i64)),.rd x.2.2.2.1 x.2.2.2.2.1 1 x.2.2.2.2.2 (r.2.2.2.map (eI .i64)),aP H]):=by
 unfold vj at hF;refine cw Tryz.func119 (Xb m hH) ?_;refine wz ?_;refine wa iW fun b3=>?_;refine au ?_;obtain⟨⟨r5,l6⟩,h4,hF⟩:=aa hF;refine wv gn (fun m hm=>ql h4 m hm.aj) ?_;rintro⟨a7,c8,n9⟩;refine W4 (k:=0) rfl ?_;rintro rfl;refine wz ?_;obtain⟨⟨r11,l12⟩,h10,hF⟩:=aa hF;refine wv gn (fun m hm=>ql h10 m hm.aj) ?_;rintro⟨a13,E6,n15⟩;refine W4 (k:=0) rfl ?_;rintro rfl;obtain⟨⟨r17,l18,r22,l23⟩,h16,hF⟩:=aa hF;refine kL gn (fun m hm=>rV h16 m hm.aj (hm.q 1) (hm.no 1) (hm.q 0) (hm.no 0)) ?_;rintro⟨a19,c20,n21,a24,c25,n26⟩;refine W4 (k:=0) rfl ?_;rintro rfl;refine W4 (k:=1) rfl ?_;rintro rfl;refine au ?_;cases hF;exact W2 (.cell (k:=4) cR rfl rfl rfl .nil) fun m' hm=>⟨(a19,c20,l18.length,a24,c25,l23.length),rfl,(ai.an [0,1,5] rfl rfl) m' hm⟩
def CO{n x1 l3 a1 c0 r}(hF:N4 n x1 l3=some r)(m)(h5:cB m a1 c0 l3):
 ax al 96 [eL x1 a1 l3 c0] m (Xp m (.tuple #[.agg #[XM r.1,XM r.2.1,XM r.2.2.1,XM r.2.2.2.1,XM r.2.2.2.2.1,XM r.2.2.2.2.2.1,XM r.2.2.2.2.2.2.1,XM r.2.2.2.2.2.2.2.1],.int .i64 r.2.2.2.2.2.2.2.2])):=by
 unfold N4 at hF;refine cw Tryz.func96 (Xa (W3 m) bM h5) ?_;refine wz ?_;refine wb fun b2=>?_;refine wa vI fun b0=>?_;refine au ?_;obtain⟨h6,hF⟩:=aD hF;obtain⟨h7,hF⟩:=aD hF;refine W9 (lG (f:=eI .i64) (z0:=(0:Int)) lh rfl h6 h7 z3 rfl rfl) gn rfl fun b3=>?_;refine au ?_;obtain⟨h28,hF⟩:=bU hF;refine wz ?_;obtain⟨x12,h8,hF⟩:=aa hF;refine Xi (eG (k:=0) (x1:=x12) (x2:=2147483648) Gp rfl rfl rfl h8 rfl) ?_;refine au ?_;obtain⟨r0,h9,hF⟩:=aa hF;refine wc gn (fun m hm=>zt h9 m (hm.q 3) (hm.q 0)) ?_;rintro⟨⟩;refine wz ?_;refine WX<|WX ?_;obtain⟨v0,h10,hF⟩:=aa hF;refine ct (fun v0 (_:XC)=>⟨.normal,[(1,ptr b2 0),(2,ptr b0 0),(27,bz v0)],[rA b2 x1 a1 l3 c0,di a1 c0 l3,tP b0]⟩) v0 ?_ ?_;clear hF;revert v0;intro r hF;refine wz ?_;rcases ah hF with⟨h11,hF⟩|⟨h11,hF⟩;refine wz ?_;cases hF;exact ae () [2,3,1];refine wz ?_;rcases ah hF with⟨h12,hF⟩|⟨h12,hF⟩;refine wz ?_;cases hF;exact ae () [2,3,1];refine wz ?_;cases hF;exact ae () [2,3,1];rintro⟨⟩;refine W5 ?_;rcases ah hF with⟨h13,hF⟩|⟨h13,hF⟩;refine wz ?_;refine WW (eZ rfl vI rfl (eX L2 rfl rfl rfl)) rfl ?_;refine au ?_;cases hF;exact W2 (.cell (k:=2) kY rfl rfl rfl (.tmp rfl .nil)) fun m' hm=>⟨(),rfl,(ai.an [] rfl rfl) m' hm⟩;refine au ?_;refine WX ?_;obtain⟨l2,h14,hF⟩:=aa hF;refine ct (fun l2 ((a2,c1):WH×Nat)=>⟨.normal,[(2,ptr b0 0),(6,bg a2 l2 c1)],[tP b0,di a2 c1 l2]⟩) l2 ?_ ?_;clear hF;revert l2;intro r hF;refine wz ?_;rcases ah hF with⟨h15,hF⟩|⟨h15,hF⟩;refine wz ?_;obtain⟨h16,hF⟩:=aD hF;obtain⟨h17,hF⟩:=aD hF;refine W9 (lG (f:=eI .i64) (z0:=(0:Int)) lh rfl h16 h17 z3 rfl rfl) gn rfl fun b4=>?_;refine au ?_;obtain⟨h29,hF⟩:=bU hF;refine wz ?_;obtain⟨x14,h18,hF⟩:=aa hF;refine Xi (eG (k:=0) (x1:=x14) (x2:=1) Gp rfl rfl rfl h18 rfl) ?_;refine wz ?_;refine WZ<|WW (aI rfl) rfl<|WW (aI rfl) rfl ?_;obtain⟨l8,h19,hF⟩:=aa hF;refine Xe (ai.close (k:=0) rfl)<|Xe (ai.freeze (k:=0) rfl)<|wv gn (fun m hm=>pC h19 m hm.aj (hm.q 0) (hm.no 0) (hm.q 2) (hm.no 2)) ?_;rintro⟨a3,c2,n2⟩;refine W4 (k:=0) rfl ?_;rintro rfl;refine wz ?_;obtain rfl:=Ug hF;exact ae (a3,c2) [4,0];refine wz ?_;obtain rfl:=Ug hF;exact ae (a1,c0) [2,1];rintro⟨a2,c1⟩;refine au ?_;refine wa vI fun b1=>?_;refine au ?_;refine W0 ?_;obtain⟨l4,h0,hF⟩:=aa hF;refine ct (fun l4 (_:XC)=>⟨(.exit 0),[(2,ptr b0 0),(8,ptr b1 0)],[tP b0,s5 b1 l4]⟩) l4 ?_ ?_;refine lw h0 () (fun(l7,v1) _=>⟨.normal,[(2,ptr b0 0),(6,bg a2 l2 c1),(8,ptr b1 0),(9,bH v1)],[tP b0,di a2 c1 l2,s5 b1 l7]⟩) (ai.trans (ai.qY (k:=0) (xs:=([0,0,0,0,0,0,0,0]:XB (Nat))) (f:=eN .u64) (l:=8) (w:=1) rfl rfl rfl (cl .u64) rfl) (ai.an [1,2,0] rfl rfl)) ?_;clear hF h0;rintro⟨l7,v1⟩ ⟨⟩ r hF;unfold vJ at hF;refine wz ?_;rcases ah hF with⟨h20,hF⟩|⟨h20,hF⟩;refine au ?_;refine WW (aN rfl rfl (mw _ _ (by decide))) rfl ?_
 refine wz ?_;refine WW (aN rfl rfl (mw _ _ (by decide))) rfl ?_
 obtain⟨h21,hF⟩:=bU hF;refine Xj (lf Gi rfl rfl h21) gn rfl ?_;obtain⟨x3,h22,hF⟩:=aa hF;refine wz ?_;obtain⟨h23,hF⟩:=bU hF;refine Xc (k:=1) rfl (aG h23) ?_;rintro b5 o3 rfl;refine wz ?_;obtain⟨x15,h30,hF⟩:=aa hF;refine wz ?_;refine WW (jh rfl (yM (by rw[u3]; rfl) DU rfl)) rfl ?_
 refine wz ?_;refine WW (aN rfl rfl (iV _ _ (by decide))) rfl<|WW (aN rfl rfl (mY _ _ _)) rfl ?_
 obtain⟨h24,hF⟩:=aD hF;obtain⟨y2,h25,hF⟩:=aa hF;refine WW (aN rfl rfl ((qJ rfl _ _ h24).trans (cN h25))) rfl ?_;refine wz ?_;obtain⟨h26,hF⟩:=bU hF;refine Xj (lf Gi rfl rfl h26) gn rfl<|Xi (eG (k:=3) (x1:=x3) (x2:=uw .u64 (x3+y2)) lA rfl rfl rfl h22 rfl) ?_;refine au ?_;cases hF;exact ae () [1,2,3];refine wz ?_;cases hF;exact ae () [0,2];rintro⟨⟩;refine wz ?_;refine WX<|WZ ?_;obtain⟨⟨x4,x5,x6,x7,x8,x9,x10,x11⟩,h27,hF⟩:=aa hF;refine Xe (ai.xr (k:=1) (ys:=[x4,x5,x6,x7,x8,x9,x10,x11]) (cs:=[bP x4,bP x5,bP x6,bP x7,bP x8,bP x9,bP x10,bP x11]) rfl (pE h27) rfl) ?_;refine au ?_;cases hF;exact W2 (.cell (k:=0) kY rfl rfl rfl (.tmp rfl .nil)) fun m' hm=>⟨(),rfl,(ai.an [] rfl rfl) m' hm⟩
def Ew{n x1 l2 x6 l7 a3 c4 a8 c9 r}(hF:Cd n x1 l2 x6 l7=some r)(m)(h5:cB m a3 c4 l2)(h10:cB m a8 c9 l7):
 ax al 159 [gQ x1 a3 l2 c4 x6 a8 l7 c9] m (Xp m (.tuple #[.agg #[XM r.1,XM r.2.1,XM r.2.2.1,XM r.2.2.2.1,XM r.2.2.2.2.1,XM r.2.2.2.2.2.1,XM r.2.2.2.2.2.2.1,XM r.2.2.2.2.2.2.2.1,XM r.2.2.2.2.2.2.2.2.1,XM r.2.2.2.2.2.2.2.2.2.1,XM r.2.2.2.2.2.2.2.2.2.2.1,XM r.2.2.2.2.2.2.2.2.2.2.2.1,XM r.2.2.2.2.2.2.2.2.2.2.2.2.1,XM r.2.2.2.2.2.2.2.2.2.2.2.2.2.1,XM r.2.2.2.2.2.2.2.2.2.2.2.2.2.2.1,XM r.2.2.2.2.2.2.2.2.2.2.2.2.2.2.2.1],.int .i64 r.2.2.2.2.2.2.2.2.2.2.2.2.2.2.2.2])):=by
 unfold Cd at hF;refine cw Tryz.func159 (Xa (Xa (W3 m) bM h5) (cA bM) h10) ?_;refine wz ?_;refine wb fun b11=>?_;refine wa z68 fun b12=>?_;refine au ?_;obtain⟨⟨r14,r15,r16,r17,r18,r19,r20,r21,r22⟩,h13,hF⟩:=aa hF;refine wc gn (fun m hm=>CO h13 m (hm.q 3)) ?_;rintro⟨⟩;refine wz ?_;refine wa vI fun b23=>?_;refine au ?_;obtain⟨⟨r25,r26,r27,r28,r29,r30,r31,r32,r33⟩,h24,hF⟩:=aa hF;refine wc gn (fun m hm=>CO h24 m (hm.q 3)) ?_;rintro⟨⟩;refine wz ?_;refine wa vI fun b34=>?_;refine wz ?_;refine WX<|WX ?_;obtain⟨v42,h44,hF⟩:=aa hF;refine ct (fun v42 (_:XC)=>⟨.normal,[(2,ptr b12 0),(4,ptr b23 0),(6,ptr b34 0),(25,bz v42)],[QY b12,KX b23 r14 r15 r16 r17 r18 r19 r20 r21,KX b34 r25 r26 r27 r28 r29 r30 r31 r32]⟩) v42 ?_ ?_;clear hF;revert v42;intro r hF;refine wz ?_;rcases ah hF with⟨h43,hF⟩|⟨h43,hF⟩;refine wz ?_;cases hF;exact ae () [2,1,0];refine wz ?_;cases hF;exact ae () [2,1,0];rintro⟨⟩;refine W5 ?_;rcases ah hF with⟨h46,hF⟩|⟨h46,hF⟩;refine wz ?_;refine WW (eZ rfl z68 rfl (eX Kc rfl rfl rfl)) rfl ?_;refine au ?_;cases hF;exact W2 (.cell (k:=0) jF rfl rfl rfl (.tmp rfl .nil)) fun m' hm=>⟨(),rfl,(ai.an [] rfl rfl) m' hm⟩;refine au ?_;refine WW (eZ rfl z68 rfl (eX Kc rfl rfl rfl)) rfl ?_;refine au ?_;cases hF;exact W2 (.cell (k:=0) jF rfl rfl rfl (.tmp rfl .nil)) fun m' hm=>⟨(),rfl,(ai.an [] rfl rfl) m' hm⟩
def OQ{n x1 x2 r}(hF:Q4 n x1 x2=some r)(m):
 ax al 81 [bH x1,bH x2] m (Xp m (.tuple #[.agg #[XM r.1,XM r.2.1,XM r.2.2.1,XM r.2.2.2.1,XM r.2.2.2.2.1,XM r.2.2.2.2.2.1,XM r.2.2.2.2.2.2.1,XM r.2.2.2.2.2.2.2.1,XM r.2.2.2.2.2.2.2.2.1,XM r.2.2.2.2.2.2.2.2.2.1,XM r.2.2.2.2.2.2.2.2.2.2.1,XM r.2.2.2.2.2.2.2.2.2.2.2.1,XM r.2.2.2.2.2.2.2.2.2.2.2.2.1,XM r.2.2.2.2.2.2.2.2.2.2.2.2.2.1,XM r.2.2.2.2.2.2.2.2.2.2.2.2.2.2.1,XM r.2.2.2.2.2.2.2.2.2.2.2.2.2.2.2.1],.int .i64 r.2.2.2.2.2.2.2.2.2.2.2.2.2.2.2.2])):=by
 unfold Q4 at hF;refine cw Tryz.func81 (W3 m) ?_;refine wz ?_;refine wa z68 fun b3=>?_;refine au ?_;rcases ah hF with⟨h4,hF⟩|⟨h4,hF⟩;refine wz ?_;refine WW (eZ rfl z68 rfl (eX Kc rfl rfl rfl)) rfl ?_;refine au ?_;cases hF;exact W2 (.cell (k:=0) jF rfl rfl rfl (.tmp rfl .nil)) fun m' hm=>⟨(),rfl,(ai.an [] rfl rfl) m' hm⟩;refine au ?_;obtain⟨⟨r6,l7,r11,l12⟩,h5,hF⟩:=aa hF;refine kL gn (fun m hm=>sD h5 m hm.aj) ?_;rintro⟨a8,c9,n10,a13,E6,n15⟩;refine W4 (k:=0) rfl ?_;rintro rfl;refine W4 (k:=1) rfl ?_;rintro rfl;obtain⟨⟨r17,r18,r19,r20,r21,r22,r23,r24,r25,r26,r27,r28,r29,r30,r31,r32,r33⟩,h16,hF⟩:=aa hF;refine wc gn (fun m hm=>Ew h16 m (hm.q 0) (hm.q 1)) ?_;rintro⟨⟩;refine au ?_;cases hF;exact W2 (.cell (k:=2) jF rfl rfl rfl (.tmp rfl .nil)) fun m' hm=>⟨(),rfl,(ai.an [] rfl rfl) m' hm⟩
def OB{n x1 l4 a2 c0 r}(hF:QP n x1 l4=some r)(m){H:WI}(hH:∀b,H b->b<m.next)(h15:O9 m a2 c0 l4)(h16:∀b,cC a2=some b->¬H b):
 ax al 21 [Pg x1 a2 l4 c0] m (fun v m'=>∃x:WH×Nat×Nat×WG ×(Nat->Prop),v=.slice x.1 x.2.2.1 x.2.1/\Hp m m' [.rd x.1 x.2.1 1 x.2.2.1 x.2.2.2.1,.gen (eh aH x.2.2.2.2 r x.2.2.2.1),aP H]):=by
 unfold QP at hF;refine cw Tryz.func21 (W6 (l0:=[]) (Xb m hH) bM h15 h16) ?_;refine WX<|WZ<|wb fun b0=>?_;refine WW (cW rfl) rfl<|W7<|W5<|WX<|WZ<|WW (bJ (r:=ptr b0 0) rfl (J9 _ _)) rfl<|WW (aV (k:=0) QW rfl rfl rfl) rfl<|WW (aN rfl rfl (kX _ _ (by decide))) rfl<|WW (jh rfl (pq (by rw[u5]; rfl) u3)) rfl<|WW (aN rfl rfl (dv _ _ _)) rfl<|WW (cW rfl) rfl<|W7<|W5<|WX<|WZ<|WW (cW rfl) rfl<|W7<|W5<|WX<|WX<|WZ<|WW (cW rfl) rfl<|W7<|W5<|W0 ?_
 obtain⟨l8,h0,hF⟩:=aa hF;refine ct (fun l8 ((a6,e3,r1):WH×WG ×(Nat->Prop))=>⟨(.exit 0),[(4,cF a6 l8)],(nF a6 l8 e3 aH r1 [aP H])⟩) l8 ?_ ?_;refine lw h0 ((none,[],(fun _=>False)):WH×WG ×(Nat->Prop)) (fun(v0,l2,v1) ((a1,e0,r0):WH×WG ×(Nat->Prop))=>⟨.normal,(O7 b0 v0 a1 l2 v1 []),(wg b0 x1 a2 l4 c0 (nF a1 l2 e0 aH r0 [aP H]))⟩) (ai.trans (ai.nil 1 rfl) (ai.trans (ai.jC (r:=aH)) (ai.an [2,3,1,0,4] rfl rfl))) ?_;clear hF h0;rintro⟨v0,l2,v1⟩ ⟨a1,e0,r0⟩ r hF;unfold w6 at hF;refine WX<|WX<|WZ<|WW (aI rfl) rfl<|WW (aI rfl) rfl<|WW (aN rfl rfl (ga _ _ _)) rfl<|W7<|W5 ?_;rcases ah hF with⟨h5,hF⟩|⟨h5,hF⟩;refine Wk.fW rfl h5<|Wk.skip<|W5<|WX<|W0<|WX<|WZ<|WW (cW rfl) rfl<|W7<|W5<|WX<|WZ<|WW (cW rfl) rfl<|W7<|W5<|WX<|WX<|WZ<|WW (cW rfl) rfl<|W7<|W5<|W0 ?_;obtain⟨r4,h6,hF⟩:=aa hF;refine ct (fun(l7,v6) (a3:WH)=>⟨(.exit 2),(O7 b0 v0 a1 l2 v1 [(6,cF a3 l7),(7,bH v6)]),(wg b0 x1 a2 l4 c0 (nF a1 l2 e0 aH r0 [nh a3 l7,aP H]))⟩) r4 ?_ ?_;refine lw h6 none (fun(l9,v3,v4) a5=>⟨.normal,(O7 b0 v0 a1 l2 v1 [(6,cF a5 l9),(7,bH v3),(8,bH v4)]),(wg b0 x1 a2 l4 c0 (nF a1 l2 e0 aH r0 [nh a5 l9,aP H]))⟩) (ai.trans (ai.nil 1 rfl) (ai.an [1,2,3,4,0,5] rfl rfl)) ?_;clear hF h6;rintro⟨l9,v3,v4⟩ a5 r hF;unfold vY at hF;refine WX<|WX<|WZ<|WW (aI rfl) rfl<|WW (aI rfl) rfl<|WW (aN rfl rfl (ga _ _ _)) rfl<|W7<|W5 ?_;rcases ah hF with⟨h7,hF⟩|⟨h7,hF⟩;refine Wk.fW rfl h7<|Wk.skip<|W5<|WX<|W0<|WX<|WZ<|WW (cW rfl) rfl<|W7<|W5<|WX ?_;obtain⟨v2,h17,hF⟩:=aa hF;refine ct (fun v2 (_:XC)=>⟨.normal,(O7 b0 v0 a1 l2 v1 [(6,cF a5 l9),(7,bH v3),(8,bH v4),(9,bH v2)]),(wg b0 x1 a2 l4 c0 (nF a1 l2 e0 aH r0 [nh a5 l9,aP H]))⟩) v2 ?_ ?_;clear hF;revert v2;intro r hF;refine WX<|WZ<|WW (aI rfl) rfl<|WW (aI rfl) rfl<|WW (aN rfl rfl (mY _ _ _)) rfl<|WW (aI rfl) rfl<|WW (aN rfl rfl (dv _ _ _)) rfl<|WW (bJ (r:=ptr b0 1) rfl (B7 _ _)) rfl<|WW (aV (k:=0) Pz rfl rfl rfl) rfl<|WW (td (k:=1) Tv rfl rfl (.inl rfl)) rfl<|WW (aN rfl rfl (ga _ _ _)) rfl<|W7<|W5 ?_;rcases ah hF with⟨h8,hF⟩|⟨h8,hF⟩;refine Wk.fW rfl h8<|WZ<|WW (bJ (r:=ptr b0 1) rfl (B7 _ _)) rfl<|WW (aV (k:=0) Pz rfl rfl rfl) rfl<|WW (aI rfl) rfl<|WW (aI rfl) rfl<|WW (aN rfl rfl (mY _ _ _)) rfl<|WW (aI rfl) rfl<|WW (aN rfl rfl (dv _ _ _)) rfl ?_;obtain⟨h12,hF⟩:=bU hF;refine Xc (k:=1) rfl (aG h12) ?_;rintro b1 o3 rfl;refine Xj (ew Ql rfl rfl h12) gn rfl ?_;obtain⟨x4,h18,hF⟩:=aa hF;refine WW (jD (k:=0) QW rfl rfl (eH h18) rfl rfl) rfl<|WW (aN rfl rfl (kX _ _ (by decide))) rfl<|WW (jh rfl (pq (by rw[u5]; rfl) u3)) rfl<|WW (cW rfl) rfl<|W7 ?_
 cases hF;exact ae () (Xk 1 6);refine Wk.lN rfl h8<|Wk.skip ?_;cases hF;exact ae () (Xk 0 6);rintro⟨⟩;refine W5<|WX<|WZ<|WW (aI rfl) rfl<|WW (aI rfl) rfl<|W9 (fc (es:=([v2]:XB (Int)).map (eI .i64)) lh rfl (fb lh z3 rfl rfl) rfl rfl) gn rfl fun b2=>?_;obtain⟨h19,hF⟩:=aD hF;refine W9 (jr (k:=5) (k2:=0) (xs:=(l9:XB (Int))) (ys:=([v2]:XB (Int))) (MY .i64) lh ⟨_,GY⟩ rfl rfl rfl (.arr _ _ _ _ _) h19) gn rfl fun a8=>?_;refine WW (cW rfl) rfl<|W7<|W5<|WZ<|WW (aI rfl) rfl<|WW (aI rfl) rfl<|WW (aN rfl rfl (dv _ _ _)) rfl<|WW (cW rfl) rfl<|W7<|At.bn<|W5<|WZ<|WW (aI rfl) rfl<|WW (aN rfl rfl (dv _ _ _)) rfl<|WW (cW rfl) rfl<|W7 ?_;cases hF;exact ae a8 (Xk 1 6);refine Wk.lN rfl h7<|Wk.exit<|At.te ?_;cases hF;exact ae a5 (Xk 0 6);clear h6;obtain⟨l7,v6⟩:=r4;rintro a3;refine At.be<|W5<|WX ?_;obtain⟨r3,h20,hF⟩:=aa hF;refine ct (fun(l11,v5) (_:XC)=>⟨.normal,(O7 b0 v0 a1 l2 v1 [(6,cF a3 l7),(7,bH v5)]),(wg b0 x1 a2 l4 c0 (nF a1 l2 e0 aH r0 [.sl a3 1 l7.length (l11.map (eI .i64)),aP H]))⟩) r3 ?_ ?_;clear hF;revert r3;intro r hF;refine WX<|WZ<|WW (aI rfl) rfl<|WW (aN rfl rfl (pf _ _ _)) rfl<|W7<|W5 ?_;rcases ah hF with⟨h9,hF⟩|⟨h9,hF⟩;refine Wk.fW rfl h9<|WZ<|WW (aI rfl) rfl<|WW (aI rfl) rfl ?_;obtain⟨h13,hF⟩:=bU hF;refine Xg (k:=4) rfl (aG h13) ?_;rintro b3 t0 rfl h26;refine Xj (hZ lh rfl rfl h13) gn rfl ?_;obtain⟨x3,h21,hF⟩:=aa hF;refine Xi (eG (k:=4) (x1:=x3) (x2:=1) Gp rfl rfl rfl h21 rfl)<|WW (cW rfl) rfl<|W7 ?_;cases hF;exact aT () (ai.trans (ai.close (k:=4) rfl) (ai.an [0,1,2,3,4,5] rfl rfl));refine Wk.lN rfl h9<|Wk.skip ?_;cases hF;exact ae () (Xk 0 6);clear h20;obtain⟨l11,v5⟩:=r3;rintro⟨⟩;refine W5<|WX<|WZ<|WW (cW rfl) rfl<|W7<|W5<|WX<|WX<|WZ<|WW (cW rfl) rfl<|W7<|W5<|W0 ?_;obtain⟨l3,h10,hF⟩:=aa hF;refine ct (fun l3 (a4:WH)=>⟨(.exit 4),(O7 b0 v0 a1 l2 v1 [(10,cF a4 l3)]),(wg b0 x1 a2 l4 c0 (nF a1 l2 e0 aH r0 [FL a4 l3,aP H]))⟩) l3 ?_ ?_;refine lw h10 none (fun(l10,v7) a7=>⟨.normal,(O7 b0 v0 a1 l2 v1 [(6,cF a3 l7),(7,bH v5),(10,cF a7 l10),(11,bH v7)]),(wg b0 x1 a2 l4 c0 (nF a1 l2 e0 aH r0 [.sl a3 1 l7.length (l11.map (eI .i64)),FL a7 l10,aP H]))⟩) (ai.trans (ai.nil 16 rfl) (ai.an [1,2,3,4,5,0,6] rfl rfl)) ?_;clear hF h10;rintro⟨l10,v7⟩ a7 r hF;unfold vA at hF;refine WX<|WX<|WZ<|WW (aI rfl) rfl<|WW (aI rfl) rfl<|WW (aN rfl rfl (ga _ _ _)) rfl<|W7<|W5 ?_;rcases ah hF with⟨h11,hF⟩|⟨h11,hF⟩;refine Wk.fW rfl h11<|Wk.skip<|W5<|WX<|W0<|WX<|WZ<|WW (aI rfl) rfl<|WW (aI rfl) rfl ?_;obtain⟨h14,hF⟩:=bU hF;refine Xg (k:=4) rfl (aG h14) ?_;rintro b4 t1 rfl h27;refine Xj (hZ lh rfl rfl h14) gn rfl ?_;obtain⟨x5,h22,hF⟩:=aa hF;refine WW (As (k:=4) Gp rfl rfl (eH h22) rfl rfl) rfl<|WW (aI rfl) rfl ?_;obtain⟨⟨r5,r6,r7,r8,r9,r10,r11,r12,r13,r14,r15,r16,r17,r18,r19,r20,r22⟩,h23,hF⟩:=aa hF;refine wc gn (fun m hm=>OQ h23 m) ?_;rintro⟨⟩;refine WW (aI rfl) rfl<|WW (NL rfl rfl) rfl<|WW (NL rfl rfl) rfl<|wa z68 fun b5=>?_;refine Xi (da (k:=0) jF rfl rfl rfl rfl rfl)<|WW (cW rfl) rfl<|W7<|W5<|WZ<|WW (aI rfl) rfl<|WW (aV (k:=0) jF rfl rfl rfl) rfl<|W9 (fc (es:=([(r5,r6,r7,r8,r9,r10,r11,r12,r13,r14,r15,r16,r17,r18,r19,r20)]:XB XN).map XL) uS rfl (fb uS z68 rfl rfl) rfl rfl) gn rfl fun b6=>?_;obtain⟨h24,hF⟩:=aD hF;refine W9 (jr (k:=7) (k2:=0) (xs:=(l10:XB XN)) (ys:=([(r5,r6,r7,r8,r9,r10,r11,r12,r13,r14,r15,r16,r17,r18,r19,r20)]:XB XN)) (cL (cl .u64) (cL (cl .u64) (cL (cl .u64) (cL (cl .u64) (cL (cl .u64) (cL (cl .u64) (cL (cl .u64) (cL (cl .u64) (cL (cl .u64) (cL (cl .u64) (cL (cl .u64) (cL (cl .u64) (cL (cl .u64) (cL (cl .u64) (cL (cl .u64) (cl .u64)))))))))))))))) uS ⟨_,Re⟩ rfl rfl rfl (.arr _ _ _ _ _) h24) gn rfl fun a9=>?_;refine WW (cW rfl) rfl<|W7<|At.bn<|W5<|WZ<|WW (aI rfl) rfl<|WW (aN rfl rfl (dv _ _ _)) rfl<|WW (cW rfl) rfl<|W7 ?_;cases hF;exact aT a9 (ai.trans (ai.close (k:=6) rfl) (ai.an [2,3,4,5,6,7,8] rfl rfl));refine Wk.lN rfl h11<|Wk.exit<|At.te ?_;cases hF;exact ae a7 [0,1,2,3,5,6];rintro a4;refine At.be<|W5<|WZ<|WW (aI rfl) rfl<|WW (aI rfl) rfl<|Xe (ai.freeze (k:=4) rfl)<|W9 (fc (es:=[[cF a4 l3]]) lz rfl (fb lz z72 rfl rfl) rfl rfl) gn rfl fun b7=>?_;refine Wo.dp (r:=aH) (L:=([l3]:XB (XB XN))) (es:=[[cF a4 l3]]) (lg.cons (r:=aH) (z:=l3) (g:=(a4,l3.length)) (Lf.s (k:=5) rfl) lg.nil) ?_;intro r23;obtain⟨h25,hF⟩:=aD hF;refine W9 (nA (r:=aH) (k:=4) (q:=5) (k2:=1) (q2:=0) (L:=l2) (L':=([l3]:XB (XB XN))) lz ⟨_,Lu⟩ rfl rfl rfl rfl (.arr _ _ _ _ _) rfl rfl h25) gn rfl ?_;rintro⟨a10,r21⟩;refine WW (cW rfl) rfl<|W7<|At.bn<|W5<|WZ<|WW (aI rfl) rfl<|WW (aN rfl rfl (dv _ _ _)) rfl<|WW (cW rfl) rfl<|W7 ?_;cases hF;exact ae (a10,(e0++([[cF a4 l3]]:WG)),r21) [2,3,4,5,7];refine Wk.lN rfl h5<|Wk.exit<|At.te ?_;cases hF;exact ae (a1,e0,r0) [2,3,4];rintro⟨a6,e3,r1⟩;refine At.be<|W5<|WX<|WZ<|WW (aI rfl) rfl<|WW (cW rfl) rfl<|W7<|W5<|Wk.ret ?_;obtain rfl:=Ug hF;exact W2 (.tmp rfl .nil) fun m' hm=>⟨(a6,l8.length,l8.length,e3,r1),rfl,(ai.trans (ai.freeze (k:=0) rfl) (ai.an [0,1,2] rfl rfl)) m' hm⟩
def Pp{n l1 a1 c1}{r0:WI}{e0:WG}{r}(hF:Qn n l1=some r)(m){H:WI}(hH:∀b,H b->b<m.next)(h5:rB m a1 c1 l1 e0)(h6:∀b,cC a1=some b->¬H b)(h7:(eh aH r0 l1 e0).P m)(h8:∀b,r0 b->¬H b):
 ax al 24 [bg a1 l1 c1] m (fun v m'=>∃x:WH×Nat×Nat×WG ×(Nat->Prop),v=.slice x.1 x.2.2.1 x.2.1/\Hp m m' [.rd x.1 x.2.1 1 x.2.2.1 x.2.2.2.1,.gen (eh aH x.2.2.2.2 r x.2.2.2.1),aP H]):=by
 unfold Qn at hF;refine cw Tryz.func24 (Hp.EP (l0:=[BN a1 c1 l1 e0]) (W6 (l0:=[]) (Xb m hH) bM h5 h6) (cA bM) h7 h8) ?_;refine eO ?_;refine WW (Pk rfl rfl (IU _ _)) rfl ?_;obtain⟨h9,hF⟩:=aD hF;refine W9 (QJ (r:=aH) (k:=1) (q:=0) (lo:=0) (hi:=mi (l1.length:Int) (4:Int)) lz rfl rfl rfl rfl rfl h9 (.inl ⟨rfl,rfl⟩) (.inr ⟨_,rfl⟩)) gn rfl ?_;rintro⟨a5,c2⟩;refine wz ?_;refine W0 ?_;obtain⟨l3,h0,hF⟩:=aa hF;refine ct (fun l3 ((a2,e4,r1):WH×WG ×(Nat->Prop))=>⟨(.exit 0),[(3,cF a2 l3)],(nF a2 l3 e4 aH r1 [aP H])⟩) l3 ?_ ?_;refine lw h0 ((none,[],(fun _=>False)):WH×WG ×(Nat->Prop)) (fun(l4,v0) ((a3,e3,r3):WH×WG ×(Nat->Prop))=>⟨.normal,[(3,cF a3 l4),(10,.slice a5 ((Xl l1 4).length) c2),(11,.int .i64 ((Xl l1 4).length:Int)),(12,bH v0)],(nF a3 l4 e3 aH r3 [.rd a5 c2 1 ((Xl l1 4).length) ((e0.drop WR).take ((mi (l1.length:Int) (4:Int):Int).toNat-WR)),.gen (eh aH r0 (Xl l1 4) ((e0.drop WR).take ((mi (l1.length:Int) (4:Int):Int).toNat-WR))),aP H])⟩) (ai.trans (ai.nil 1 rfl) (ai.trans (ai.jC (r:=aH)) (ai.an [1,0,2,3,6] rfl rfl))) ?_;clear hF h0;rintro⟨l4,v0⟩ ⟨a3,e3,r3⟩ r hF;unfold wE at hF;refine wz ?_;refine WX ?_;rcases ah hF with⟨h10,hF⟩|⟨h10,hF⟩;refine au ?_;obtain⟨h11,hF⟩:=bU hF;refine Xc (k:=2) rfl (aG h11) ?_;rintro b0 o3 rfl;refine wz ?_;obtain⟨l2,h12,hF⟩:=aa hF;refine wl 1 0 4 0 h12 ?_;rintro⟨a7,c3⟩;refine au ?_;refine WW (Pk rfl rfl (IU _ _)) rfl ?_;obtain⟨h13,hF⟩:=aD hF;refine W9 (wo (k:=0) (lo:=0) (hi:=mi (l2.length:Int) (4:Int)) uS rfl rfl rfl rfl h13 (.inl ⟨rfl,rfl⟩) (.inr ⟨_,rfl⟩)) gn rfl ?_;rintro⟨a4,c0⟩;refine W9 (fc (es:=[[.slice a4 ((Xl l2 4).length) c0]]) lz rfl (fb lz z72 rfl rfl) rfl rfl) gn rfl fun b1=>?_;refine Wo.dp (r:=aH) (L:=([(Xl l2 4)]:XB (XB XN))) (es:=[[.slice a4 ((Xl l2 4).length) c0]]) (lg.cons (r:=aH) (z:=(Xl l2 4)) (g:=(a4,c0)) (Lf.s (k:=1) rfl) lg.nil) ?_;intro r5;obtain⟨h14,hF⟩:=aD hF;refine W9 (nA (r:=aH) (k:=5) (q:=6) (k2:=1) (q2:=0) (L:=l4) (L':=([(Xl l2 4)]:XB (XB XN))) lz ⟨_,Lu⟩ rfl rfl rfl rfl (.arr _ _ _ _ _) rfl rfl h14) gn rfl ?_;rintro⟨a6,r4⟩;refine au ?_;cases hF;exact ae (a6,(e3++([[.slice a4 ((Xl l2 4).length) c0]]:WG)),r4) [5,6,7,8,9];refine wz ?_;cases hF;exact ae (a3,e3,r3) [0,1,4];rintro⟨a2,e4,r1⟩;refine eO ?_;obtain rfl:=Ug hF;exact W2 (.tmp rfl .nil) fun m' hm=>⟨(a2,l3.length,l3.length,e4,r1),rfl,(ai.trans (ai.freeze (k:=0) rfl) (ai.an [0,1,2] rfl rfl)) m' hm⟩
def OJ{n x1 x2 x3 x4 x5 x6 x7 x8 x9 x10 x11 x12 x13 x14 x15 x16 x17 x18 l8 a2 c0}{r0:WI}{e4:WG}{r}(hF:Qi n x1 x2 x3 x4 x5 x6 x7 x8 x9 x10 x11 x12 x13 x14 x15 x16 x17 x18 l8=some r)(m){H:WI}(hH:∀b,H b->b<m.next)(h16:rB m a2 c0 l8 e4)(h17:∀b,cC a2=some b->¬H b)(h18:(eh aH r0 l8 e4).P m)(h19:∀b,r0 b->¬H b):
 ax al 25 [QV x1 x2 x3 x4 x5 x6 x7 x8 x9 x10 x11 x12 x13 x14 x15 x16 x17 x18,bg a2 l8 c0] m (fun v m'=>∃x:WH×Nat×Nat×WG ×(Nat->Prop),v=.slice x.1 x.2.2.1 x.2.1/\Hp m m' [.rd x.1 x.2.1 1 x.2.2.1 x.2.2.2.1,.gen (eh aH x.2.2.2.2 r x.2.2.2.1),aP H]):=by
 unfold Qi at hF;refine cw Tryz.func25 (Hp.EP (l0:=[BN a2 c0 l8 e4]) (W6 (l0:=[]) (Xb m hH) bM h16 h17) (cA bM) h18 h19) ?_;refine wz ?_;refine wb fun b0=>?_;refine eO ?_;refine W0 ?_;obtain⟨l2,h5,hF⟩:=aa hF;refine ct (fun l2 ((a3,e0,r1):WH×WG ×(Nat->Prop))=>⟨(.exit 0),[(2,ptr b0 0),(5,cF a3 l2)],[K5 b0 x1 x2 x3 x4 x5 x6 x7 x8 x9 x10 x11 x12 x13 x14 x15 x16 x17 x18,Px a3 l2 e0,.gen (iz iF r1 l2 e0),aP H]⟩) l2 ?_ ?_;refine lw h5 ((none,[],(fun _=>False)):WH×WG ×(Nat->Prop)) (fun(l11,v0) ((a4,e3,r3):WH×WG ×(Nat->Prop))=>⟨.normal,[(2,ptr b0 0),(5,cF a4 l11),(9,bg a2 l8 c0),(10,ep l8),(11,bH v0)],(K5 b0 x1 x2 x3 x4 x5 x6 x7 x8 x9 x10 x11 x12 x13 x14 x15 x16 x17 x18::Px a4 l11 e3::.gen (iz iF r3 l11 e3)::iq a2 c0 l8 e4 aH r0 [aP H])⟩) (ai.trans (ai.nil 1 rfl) (ai.trans (ai.I7 (o:=iF)) (ai.an [2,1,0,4,3,5] rfl rfl))) ?_;clear hF h5;rintro⟨l11,v0⟩ ⟨a4,e3,r3⟩ r hF;unfold wR at hF;refine wz ?_;refine WX ?_;rcases ah hF with⟨h20,hF⟩|⟨h20,hF⟩;refine au ?_;obtain⟨h21,hF⟩:=bU hF;refine Xc (k:=3) rfl (aG h21) ?_;rintro b5 o3 rfl;refine wz ?_;obtain⟨l16,h22,hF⟩:=aa hF;refine wl 1 0 5 0 h22 ?_;rintro⟨a9,c3⟩;refine au ?_;obtain⟨l12,h23,hF⟩:=aa hF;refine wc gn (fun m hm=>OS n l16 a9 c3 _ h23 m (hm.q 0)) ?_;rintro⟨a8,n3⟩;refine Wo.len (k:=0) (xs:=l12) rfl ?_;rintro rfl;refine W9 (fc (es:=[[cF a8 l12]]) lz rfl (fb lz z72 rfl rfl) rfl rfl) gn rfl fun b6=>?_;refine Xe (ai.an [1,0,2,3,4,5,6,7,8,9] rfl rfl)<|Wo.PD (o:=iF) (x:=l12) (g:=a8) rfl ?_;intro r13;obtain⟨h24,hF⟩:=aD hF;refine Xe (ai.an [6,0,5,1,2,3,4,7,8,9] rfl rfl)<|W9 (O8 (o:=iF) (L:=l11) (L':=([l12]:XB (XB XN))) lz ⟨_,Lu⟩ rfl (.arr _ _ _ _ _) rfl h24) gn rfl ?_;rintro⟨a10,r8⟩;refine au ?_;cases hF;exact ae (a10,(e3++([[cF a8 l12]]:WG)),r8) [5,1,0,6,7,8];refine wz ?_;cases hF;exact ae (a4,e3,r3) [0,1,2,5];rintro⟨a3,e0,r1⟩;refine au ?_;refine WW (jh rfl (pq (by rw[u5]; rfl) u3)) rfl ?_
 refine wz ?_;obtain⟨h25,hF⟩:=aD hF;refine WW (aN rfl rfl (iV _ _ h25)) rfl ?_;refine wz ?_;refine WX ?_;obtain⟨r4,h26,hF⟩:=aa hF;refine ct (fun(n2,l14) ((a5,c1,e5,r5):WH×Nat×WG ×(Nat->Prop))=>⟨.normal,[(5,.slice a5 n2 c1)],[.rd a5 c1 1 n2 e5,mZ aH r5 l14 e5,aP H]⟩) r4 ?_ ?_;clear hF;revert r4;intro r hF;refine wz ?_;refine WW (aN rfl rfl (kX _ _ (by decide))) rfl ?_
 refine au ?_;rcases ah hF with⟨h27,hF⟩|⟨h27,hF⟩;refine wz ?_;obtain⟨h9,hF⟩:=bU hF;refine Xg (k:=1) rfl (aG h9) ?_;rintro b3 t1 rfl h43;refine Xj (hZ lz rfl rfl h9) gn rfl ?_;obtain⟨l7,h10,hF⟩:=aa hF;refine Xe (ai.an [2,0,1,3] rfl rfl)<|Wo.Hi (o:=iF) (j:=((Int.tmod (WQ ((x2:Nat):Int)) (l2.length:Int)).toNat)) (x:=l7) (N:=fun g S1 S2=>[.sl g 16 l7.length (l7.map XL),.gen (iz iF S1 (l2.take ((Int.tmod (WQ ((x2:Nat):Int)) (l2.length:Int)).toNat)) (e0.take ((Int.tmod (WQ ((x2:Nat):Int)) (l2.length:Int)).toNat))),.gen (iz iF S2 (l2.drop (((Int.tmod (WQ ((x2:Nat):Int)) (l2.length:Int)).toNat)+1)) (e0.drop (((Int.tmod (WQ ((x2:Nat):Int)) (l2.length:Int)).toNat)+1))),K5 b0 x1 x2 x3 x4 x5 x6 x7 x8 x9 x10 x11 x12 x13 x14 x15 x16 x17 x18,.arr b3 1 l2.length e0 t1,aP H]) h10 (fun _ _ _=>rfl) ?_;rintro a13 r14 r15 h6;refine Xe (ai.Fe (k:=4) rfl (sN h6).symm)<|WW (As (k:=4) nm rfl rfl (xn h6) rfl rfl) rfl ?_;refine wz ?_;refine WW (aN rfl rfl (lR rfl _ _ (by decide))) rfl<|WW (jh rfl (pq (by rw[u5]; rfl) u3)) rfl<|WW (aI rfl) rfl<|WW (td (k:=4) Lu rfl rfl (.inl rfl)) rfl ?_
 obtain⟨h28,hF⟩:=aD hF;obtain⟨y2,h29,hF⟩:=aa hF;refine WW (aN rfl rfl ((iV _ _ h28).trans (cI h29))) rfl ?_;refine wz ?_;obtain⟨h30,hF⟩:=bU hF;refine Xg (k:=0) rfl (aG h30) ?_;rintro b2 t3 rfl h44;refine wz ?_;obtain⟨⟨x35,x36,x37,x38,x39,x40,x41,x42,x43,x44,x45,x46,x47,x48,x49,x50⟩,h31,hF⟩:=aa hF;refine Xi (eG (k:=0) (x1:=(x35,x36,x37,x38,x39,x40,x41,x42,x43,x44,x45,x46,x47,x48,x49,x50)) (x2:=(x3,x4,x5,x6,x7,x8,x9,x10,x11,x12,x13,x14,x15,x16,x17,x18)) jF rfl rfl rfl h31 rfl) ?_;refine wz ?_;refine At.bT (ai.close (k:=0) rfl)<|At.bT (ai.freeze (k:=0) rfl)<|At.bT (ai.an [1,2,0,3,4,5] rfl rfl)<|At.IH (o:=iF) (r:=aH) (y:=(l7.set y2.toNat (x3,x4,x5,x6,x7,x8,x9,x10,x11,x12,x13,x14,x15,x16,x17,x18))) (g:=((some ⟨b2,0,none⟩),l7.length)) (e2:=[Hz b2 l7]) h10 h6 (Lf.sr (k:=0) rfl) (fun m hm=>by have e6:=qI (k:=0) (xs:=(l7.set y2.toNat (x3,x4,x5,x6,x7,x8,x9,x10,x11,x12,x13,x14,x15,x16,x17,x18))) hm rfl; show([.slice (some ⟨b2,0,none⟩) ((l7.set y2.toNat (x3,x4,x5,x6,x7,x8,x9,x10,x11,x12,x13,x14,x15,x16,x17,x18)).length) l7.length]:XB WJ)=_; rw[<-e6]) ?_
 intro r9;refine At.bT (ai.close (k:=3) rfl)<|At.bT (ai.freeze (k:=3) rfl) ?_;cases hF;exact ae ((some ⟨b3,0,none⟩),l2.length,(e0.set ((Int.tmod (WQ ((x2:Nat):Int)) (l2.length:Int)).toNat) [Hz b2 l7]),r9) [3,0,4];refine wz ?_;rcases ah hF with⟨h32,hF⟩|⟨h32,hF⟩;refine wz ?_;obtain⟨h11,hF⟩:=bU hF;refine Xg (k:=1) rfl (aG h11) ?_;rintro b4 t2 rfl h45;refine Xj (hZ lz rfl rfl h11) gn rfl ?_;obtain⟨l4,h12,hF⟩:=aa hF;refine Xe (ai.an [2,0,1,3] rfl rfl)<|Wo.Hi (o:=iF) (j:=((Int.tmod (WQ ((x2:Nat):Int)) (l2.length:Int)).toNat)) (x:=l4) (N:=fun g S1 S2=>[.sl g 16 l4.length (l4.map XL),.gen (iz iF S1 (l2.take ((Int.tmod (WQ ((x2:Nat):Int)) (l2.length:Int)).toNat)) (e0.take ((Int.tmod (WQ ((x2:Nat):Int)) (l2.length:Int)).toNat))),.gen (iz iF S2 (l2.drop (((Int.tmod (WQ ((x2:Nat):Int)) (l2.length:Int)).toNat)+1)) (e0.drop (((Int.tmod (WQ ((x2:Nat):Int)) (l2.length:Int)).toNat)+1))),K5 b0 x1 x2 x3 x4 x5 x6 x7 x8 x9 x10 x11 x12 x13 x14 x15 x16 x17 x18,.arr b4 1 l2.length e0 t2,aP H]) h12 (fun _ _ _=>rfl) ?_;rintro a11 r16 r17 h0;refine Xe (ai.Fe (k:=4) rfl (sN h0).symm)<|WW (As (k:=4) nm rfl rfl (xn h0) rfl rfl) rfl ?_;refine wz ?_;refine W9 (fc (es:=([(x3,x4,x5,x6,x7,x8,x9,x10,x11,x12,x13,x14,x15,x16,x17,x18)]:XB XN).map XL) uS rfl (fb uS z68 rfl rfl) rfl rfl) gn rfl fun b7=>?_;obtain⟨h33,hF⟩:=aD hF;refine W9 (jr (k:=1) (k2:=0) (xs:=(l4:XB XN)) (ys:=([(x3,x4,x5,x6,x7,x8,x9,x10,x11,x12,x13,x14,x15,x16,x17,x18)]:XB XN)) (cL (cl .u64) (cL (cl .u64) (cL (cl .u64) (cL (cl .u64) (cL (cl .u64) (cL (cl .u64) (cL (cl .u64) (cL (cl .u64) (cL (cl .u64) (cL (cl .u64) (cL (cl .u64) (cL (cl .u64) (cL (cl .u64) (cL (cl .u64) (cL (cl .u64) (cl .u64)))))))))))))))) uS ⟨_,Re⟩ rfl rfl rfl (.arr _ _ _ _ _) h33) gn rfl fun a6=>?_;obtain⟨h46,hF⟩:=bU hF;refine wz ?_;refine Xi (qU (k:=5) (j:=(Int.tmod (WQ ((x2:Nat):Int)) (l2.length:Int)).toNat) (c:=0) (e:=[cF a11 l4]) (e':=[.slice a6 ((l4++[(x3,x4,x5,x6,x7,x8,x9,x10,x11,x12,x13,x14,x15,x16,x17,x18)]).length) ((l4++[(x3,x4,x5,x6,x7,x8,x9,x10,x11,x12,x13,x14,x15,x16,x17,x18)]).length)]) nm rfl rfl rfl (xn h0) rfl)<|Xe (ai.Fe (k:=5) rfl (List.set_set _)) ?_;refine wz ?_;refine At.bT (ai.freeze (k:=1) rfl)<|At.bT (ai.an [2,3,0,1,4,5,6] rfl rfl)<|At.IH (o:=iF) (r:=aH) (y:=(l4++[(x3,x4,x5,x6,x7,x8,x9,x10,x11,x12,x13,x14,x15,x16,x17,x18)])) (g:=(a6,(l4++[(x3,x4,x5,x6,x7,x8,x9,x10,x11,x12,x13,x14,x15,x16,x17,x18)]).length)) (e2:=[.slice a6 ((l4++[(x3,x4,x5,x6,x7,x8,x9,x10,x11,x12,x13,x14,x15,x16,x17,x18)]).length) ((l4++[(x3,x4,x5,x6,x7,x8,x9,x10,x11,x12,x13,x14,x15,x16,x17,x18)]).length)]) h12 h0 (Lf.sr (k:=1) rfl) (fun _ _=>rfl) ?_;intro r10;refine At.bT (ai.close (k:=4) rfl)<|At.bT (ai.freeze (k:=4) rfl) ?_;cases hF;exact ae ((some ⟨b4,0,none⟩),l2.length,(e0.set ((Int.tmod (WQ ((x2:Nat):Int)) (l2.length:Int)).toNat) [.slice a6 ((l4++[(x3,x4,x5,x6,x7,x8,x9,x10,x11,x12,x13,x14,x15,x16,x17,x18)]).length) ((l4++[(x3,x4,x5,x6,x7,x8,x9,x10,x11,x12,x13,x14,x15,x16,x17,x18)]).length)]),r10) [4,0,5];refine wz ?_;rcases ah hF with⟨h13,hF⟩|⟨h13,hF⟩;refine Wk.fW rfl h13<|Wk.bT (ai.an [2,0,1,3] rfl rfl)<|Wk.bT ai.Nj ?_;refine wz ?_;obtain⟨h34,hF⟩:=bU hF;refine Xg (k:=2) rfl (aG h34) ?_;rintro b8 t4 rfl h47;refine wz ?_;obtain⟨l9,h35,hF⟩:=aa hF;refine W9 (q7 (w:=1) (j:=WR) (c:=0) (q:=0) nm rfl (ov _ _) (fu (k:=2) rfl) rfl h35 (fun _=>rfl) rfl (fun _=>rfl)) gn rfl ?_;rintro⟨a7,c2⟩;refine W9 (fc (es:=[[bg a7 l9 c2]]) lz rfl (fb lz z72 rfl rfl) rfl rfl) gn rfl fun b9=>?_;refine Wo.dp (r:=aH) (L:=([l9]:XB (XB XN))) (es:=[[bg a7 l9 c2]]) (lg.cons (r:=aH) (z:=l9) (g:=(a7,c2)) (Lf.s (k:=1) rfl) lg.nil) ?_;intro r18;obtain⟨h36,hF⟩:=aD hF;refine Xe (ai.close (k:=5) rfl)<|W9 (nA (r:=aH) (k:=5) (q:=3) (k2:=1) (q2:=0) (L:=l2) (L':=([l9]:XB (XB XN))) lz ⟨_,Lu⟩ rfl rfl rfl rfl (.arr _ _ _ _ _) rfl rfl h36) gn rfl ?_;rintro⟨a12,r11⟩;refine wz ?_;cases hF;exact aT (a12,(l2++([l9]:XB (XB XN))).length,(e0++([[bg a7 l9 c2]]:WG)),r11) (ai.trans (ai.freeze (k:=5) rfl) (ai.an [5,3,6] rfl rfl));refine wz ?_;rcases ah hF with⟨h37,hF⟩|⟨h37,hF⟩;refine wz ?_;obtain⟨h14,hF⟩:=bU hF;refine Xg (k:=1) rfl (aG h14) ?_;rintro b1 t0 rfl h48;refine Xj (hZ lz rfl rfl h14) gn rfl ?_;obtain⟨l3,h15,hF⟩:=aa hF;refine Xe (ai.an [2,0,1,3] rfl rfl)<|Wo.Hi (o:=iF) (j:=((Int.tmod (WQ ((x2:Nat):Int)) (l2.length:Int)).toNat)) (x:=l3) (N:=fun g S1 S2=>[.sl g 16 l3.length (l3.map XL),.gen (iz iF S1 (l2.take ((Int.tmod (WQ ((x2:Nat):Int)) (l2.length:Int)).toNat)) (e0.take ((Int.tmod (WQ ((x2:Nat):Int)) (l2.length:Int)).toNat))),.gen (iz iF S2 (l2.drop (((Int.tmod (WQ ((x2:Nat):Int)) (l2.length:Int)).toNat)+1)) (e0.drop (((Int.tmod (WQ ((x2:Nat):Int)) (l2.length:Int)).toNat)+1))),K5 b0 x1 x2 x3 x4 x5 x6 x7 x8 x9 x10 x11 x12 x13 x14 x15 x16 x17 x18,.arr b1 1 l2.length e0 t0,aP H]) h15 (fun _ _ _=>rfl) ?_;rintro a1 r6 r7 h7;refine Xe (ai.Fe (k:=4) rfl (sN h7).symm)<|WW (As (k:=4) nm rfl rfl (xn h7) rfl rfl) rfl ?_;obtain⟨l10,h38,hF⟩:=aa hF;refine wq (fun l10 (_:XC)=>(.tuple #[],[.arr b1 1 l2.length (e0.set ((Int.tmod (WQ ((x2:Nat):Int)) (l2.length:Int)).toNat) [cF a1 l3]) t0,Nt a1 l3 l10,.gen (iz iF r6 (l2.take ((Int.tmod (WQ ((x2:Nat):Int)) (l2.length:Int)).toNat)) (e0.take ((Int.tmod (WQ ((x2:Nat):Int)) (l2.length:Int)).toNat))),.gen (iz iF r7 (l2.drop (((Int.tmod (WQ ((x2:Nat):Int)) (l2.length:Int)).toNat)+1)) (e0.drop (((Int.tmod (WQ ((x2:Nat):Int)) (l2.length:Int)).toNat)+1))),aP H])) l10 (fun m hm=>?_) ?_;clear hF;revert l10;intro r hF;refine fX (N:=28) (rs:=[]) rfl Tryz.func99 rfl rfl rfl hm ?_;refine wz ?_;refine W0 ?_;obtain⟨l13,h8,hF⟩:=aa hF;refine ct (fun l13 (_:XC)=>⟨(.exit 0),[],[.arr b1 1 l2.length (e0.set ((Int.tmod (WQ ((x2:Nat):Int)) (l2.length:Int)).toNat) [cF a1 l3]) t0,Nt a1 l3 l13,.gen (iz iF r6 (l2.take ((Int.tmod (WQ ((x2:Nat):Int)) (l2.length:Int)).toNat)) (e0.take ((Int.tmod (WQ ((x2:Nat):Int)) (l2.length:Int)).toNat))),.gen (iz iF r7 (l2.drop (((Int.tmod (WQ ((x2:Nat):Int)) (l2.length:Int)).toNat)+1)) (e0.drop (((Int.tmod (WQ ((x2:Nat):Int)) (l2.length:Int)).toNat)+1))),aP H]⟩) l13 ?_ ?_;refine lo h8 () [0,4,1,2,5] (fun(l15,v1,v2) _=>⟨.normal,[(0,cF a1 l3),(2,bH v1),(3,bH v2)],[Nt a1 l3 l15,.arr b1 1 l2.length (e0.set ((Int.tmod (WQ ((x2:Nat):Int)) (l2.length:Int)).toNat) [cF a1 l3]) t0,.gen (iz iF r6 (l2.take ((Int.tmod (WQ ((x2:Nat):Int)) (l2.length:Int)).toNat)) (e0.take ((Int.tmod (WQ ((x2:Nat):Int)) (l2.length:Int)).toNat))),.gen (iz iF r7 (l2.drop (((Int.tmod (WQ ((x2:Nat):Int)) (l2.length:Int)).toNat)+1)) (e0.drop (((Int.tmod (WQ ((x2:Nat):Int)) (l2.length:Int)).toNat)+1))),aP H]⟩) ?_;clear hF h8;rintro⟨l15,v1,v2⟩ ⟨⟩ r hF;unfold Hu at hF;refine wz ?_;rcases ah hF with⟨h39,hF⟩|⟨h39,hF⟩;refine au ?_;obtain⟨h40,hF⟩:=bU hF;refine Xg (k:=0) rfl (aG h40) ?_;rintro b10 t5 rfl h49;refine wz ?_;obtain⟨⟨x51,x52,x53,x54,x55,x56,x57,x58,x59,x60,x61,x62,x63,x64,x65,x66⟩,h50,hF⟩:=aa hF;refine wz ?_;obtain⟨h51,hF⟩:=bU hF;refine wz ?_;obtain⟨⟨x19,x20,x21,x22,x23,x24,x25,x26,x27,x28,x29,x30,x31,x32,x33,x34⟩,h41,hF⟩:=aa hF;refine wz ?_;obtain⟨h52,hF⟩:=bU hF;refine wz ?_;refine Xi (eG (k:=0) (x1:=(x19,x20,x21,x22,x23,x24,x25,x26,x27,x28,x29,x30,x31,x32,x33,x34)) (x2:=(x51,x52,x53,x54,x55,x56,x57,x58,x59,x60,x61,x62,x63,x64,x65,x66)) jF rfl rfl rfl h41 rfl) ?_;obtain⟨h53,hF⟩:=bU hF;refine wz ?_;obtain⟨⟨x67,x68,x69,x70,x71,x72,x73,x74,x75,x76,x77,x78,x79,x80,x81,x82⟩,h42,hF⟩:=aa hF;refine Xi (eG (k:=0) (x1:=(x67,x68,x69,x70,x71,x72,x73,x74,x75,x76,x77,x78,x79,x80,x81,x82)) (x2:=(x19,x20,x21,x22,x23,x24,x25,x26,x27,x28,x29,x30,x31,x32,x33,x34)) jF rfl rfl rfl h42 rfl) ?_;refine au ?_;cases hF;exact aT () (ai.trans (ai.close (k:=0) rfl) (ai.an [0,1,2,3,4] rfl rfl));refine wz ?_;cases hF;exact ae () [1,0,2,3,4];rintro⟨⟩;refine At.be ?_;obtain rfl:=Ug hF;exact At.fin .nil fun m' hm=>⟨(),rfl,(ai.an [0,1,2,3,4] rfl rfl) m' hm⟩;rintro⟨⟩;refine wz ?_;refine At.bT (ai.freeze (k:=1) rfl)<|At.bT (ai.an [2,3,0,1,4] rfl rfl)<|At.IH (o:=iF) (r:=aH) (y:=l10) (g:=(a1,l3.length)) (e2:=[cF a1 l3]) h15 h7 (Lf.sr (k:=1) rfl) (fun m hm=>by have e6:=qI (k:=1) (xs:=l10) hm rfl; show([.slice a1 l10.length l3.length]:XB WJ)=_; rw[<-e6]) ?_
 intro r12;refine At.bT (ai.close (k:=1) rfl)<|At.bT (ai.freeze (k:=1) rfl) ?_;cases hF;exact ae ((some ⟨b1,0,none⟩),l2.length,(e0.set ((Int.tmod (WQ ((x2:Nat):Int)) (l2.length:Int)).toNat) [cF a1 l3]),r12) [1,0,3];refine wz ?_;refine At.bT (ai.an [2,0,1,3] rfl rfl)<|At.bT ai.Nj<|At.bT (ai.freeze (k:=2) rfl) ?_;cases hF;exact ae (a3,l2.length,e0,r1) [2,0,3];clear h26;obtain⟨n2,l14⟩:=r4;rintro⟨a5,c1,e5,r5⟩;refine eO ?_;obtain rfl:=Ug hF;exact ar (a5,c1,n2,e5,r5) [0,1,2]
def JX{n x1 r}(hF:NX n x1=some r)(m):
 ax al 58 [bH x1] m (Xp m (.agg #[XM r.1,XM r.2.1,XM r.2.2.1,XM r.2.2.2.1,XM r.2.2.2.2.1,XM r.2.2.2.2.2.1,XM r.2.2.2.2.2.2.1,XM r.2.2.2.2.2.2.2])):=by
 unfold NX at hF;refine cw Tryz.func58 (W3 m) ?_;refine wz ?_;refine wa vI fun b2=>?_;refine au ?_;refine WW (jh rfl (yM (by rw[u3]; rfl) DU rfl)) rfl<|WW (eZ rfl vI rfl (eX L2 rfl rfl rfl)) rfl<|wa vI fun b3=>?_
 refine wz ?_;refine WX ?_;obtain⟨l30,h57,hF⟩:=aa hF;refine ct (fun l30 (_:XC)=>⟨.normal,[(2,ptr b2 0),(3,ptr b3 0)],[tP b2,s5 b3 l30]⟩) l30 ?_ ?_;clear hF;revert l30;intro r hF;refine wz ?_;rcases ah hF with⟨h31,hF⟩|⟨h31,hF⟩;refine wz ?_;refine W0 ?_;obtain⟨l49,h55,hF⟩:=aa hF;refine ct (fun l49 (_:XC)=>⟨(.exit 0),[(2,ptr b2 0),(3,ptr b3 0)],[tP b2,s5 b3 l49]⟩) l49 ?_ ?_;refine lw h55 () (fun(l40,v41) _=>⟨.normal,[(2,ptr b2 0),(3,ptr b3 0),(4,bH v41)],[tP b2,s5 b3 l40]⟩) (ai.trans (ai.qY (k:=0) (xs:=([ui .u64 x1,0,0,0,0,0,0,0]:XB (Nat))) (f:=eN .u64) (l:=8) (w:=1) rfl rfl rfl (cl .u64) rfl) (ai.an [1,0] rfl rfl)) ?_;clear hF h55;rintro⟨l40,v41⟩ ⟨⟩ r hF;unfold MP at hF;refine wz ?_;rcases ah hF with⟨h50,hF⟩|⟨h50,hF⟩;refine au ?_;obtain⟨h51,hF⟩:=bU hF;refine Xj (lf Gi rfl rfl h51) gn rfl ?_;obtain⟨x52,h53,hF⟩:=aa hF;refine Xi (eG (k:=1) (x1:=x52) (x2:=18446744073709551615) lA rfl rfl rfl h53 rfl) ?_;refine au ?_;cases hF;exact ae () [0,1];refine wz ?_;cases hF;exact ae () [0,1];rintro⟨⟩;refine At.be ?_;obtain rfl:=Ug hF;exact ae () [0,1];refine wz ?_;cases hF;exact aT () (ai.trans (ai.qY (k:=0) (xs:=([ui .u64 x1,0,0,0,0,0,0,0]:XB (Nat))) (f:=eN .u64) (l:=8) (w:=1) rfl rfl rfl (cl .u64) rfl) (ai.an [1,0] rfl rfl));rintro⟨⟩;refine W5<|WX<|WZ ?_;obtain⟨⟨x59,x60,x61,x62,x63,x64,x65,x66⟩,h67,hF⟩:=aa hF;refine Xe (ai.xr (k:=1) (ys:=[x59,x60,x61,x62,x63,x64,x65,x66]) (cs:=[bP x59,bP x60,bP x61,bP x62,bP x63,bP x64,bP x65,bP x66]) rfl (pE h67) rfl) ?_;refine au ?_;cases hF;exact W2 (.cell (k:=0) kY rfl rfl rfl .nil) fun m' hm=>⟨(),rfl,(ai.an [] rfl rfl) m' hm⟩
def E4{n x1 x2 x3 x4 x5 x6 x7 x8 x9 x10 x11 x12 x13 x14 x15 x16 r}(hF:Is n x1 x2 x3 x4 x5 x6 x7 x8 x9 x10 x11 x12 x13 x14 x15 x16=some r)(m):
 ax al 196 [rr x1 x2 x3 x4 x5 x6 x7 x8,rr x9 x10 x11 x12 x13 x14 x15 x16] m (Xp m (.tuple #[.agg #[XM r.1,XM r.2.1,XM r.2.2.1,XM r.2.2.2.1,XM r.2.2.2.2.1,XM r.2.2.2.2.2.1,XM r.2.2.2.2.2.2.1,XM r.2.2.2.2.2.2.2.1],XM r.2.2.2.2.2.2.2.2])):=by
 unfold Is at hF;refine cw Tryz.func196 (W3 m) ?_;refine wz ?_;refine wb fun b17=>?_;refine wb fun b18=>?_;refine wa JK fun b19=>?_;refine eO ?_;refine W0 ?_;obtain⟨r71,h70,hF⟩:=aa hF;refine ct (fun(l56,v57) (_:XC)=>⟨(.exit 0),[(2,ptr b17 0),(4,ptr b19 0),(6,bP v57)],[s5 b17 l56,tP b19]⟩) r71 ?_ ?_;refine lw h70 () (fun(l36,l37,v38,v39) _=>⟨.normal,[(2,ptr b17 0),(3,ptr b18 0),(4,ptr b19 0),(6,bP v38),(8,bH v39)],[s5 b17 l36,s5 b18 l37,tP b19]⟩) (ai.trans (ai.qY (k:=2) (xs:=([x1,x2,x3,x4,x5,x6,x7,x8]:XB (Nat))) (f:=eN .u64) (l:=8) (w:=1) rfl rfl rfl (cl .u64) rfl) (ai.trans (ai.qY (k:=1) (xs:=([x9,x10,x11,x12,x13,x14,x15,x16]:XB (Nat))) (f:=eN .u64) (l:=8) (w:=1) rfl rfl rfl (cl .u64) rfl) (ai.an [2,1,0] rfl rfl))) ?_;clear hF h70;rintro⟨l36,l37,v38,v39⟩ ⟨⟩ r hF;unfold qG at hF;refine wz ?_;refine WX ?_;rcases ah hF with⟨h58,hF⟩|⟨h58,hF⟩;refine eO ?_;obtain⟨h59,hF⟩:=bU hF;refine Xj (lf nL rfl rfl h59) gn rfl ?_;obtain⟨x60,h61,hF⟩:=aa hF;refine wz ?_;obtain⟨h62,hF⟩:=bU hF;refine Xj (lf nL rfl rfl h62) gn rfl ?_;obtain⟨x63,h64,hF⟩:=aa hF;refine wz ?_;obtain⟨⟨r66,r67⟩,h65,hF⟩:=aa hF;refine wc gn (fun m hm=>E0 n x60 x63 v38  _ h65 m) ?_;rintro⟨⟩;refine wz ?_;obtain⟨h68,hF⟩:=bU hF;refine Xj (lf nL rfl rfl h68) gn rfl<|Xi (eG (k:=0) (x1:=x60) (x2:=r66) lA rfl rfl rfl h61 rfl) ?_;refine au ?_;cases hF;exact ae () [0,1,2];refine wz ?_;cases hF;exact ae () [0,2];clear h70;obtain⟨l56,v57⟩:=r71;rintro⟨⟩;refine wz ?_;refine WX<|WZ ?_;obtain⟨⟨x72,x73,x74,x75,x76,x77,x78,x79⟩,h80,hF⟩:=aa hF;refine Xe (ai.xr (k:=0) (ys:=[x72,x73,x74,x75,x76,x77,x78,x79]) (cs:=[bP x72,bP x73,bP x74,bP x75,bP x76,bP x77,bP x78,bP x79]) rfl (pE h80) rfl) ?_;refine au ?_;cases hF;exact W2 (.cell (k:=1) Nq rfl rfl rfl (.tmp rfl .nil)) fun m' hm=>⟨(),rfl,(ai.an [] rfl rfl) m' hm⟩
def K2{n x1 x2 x3 x4 x5 x6 x7 x8 r}(hF:IP n x1 x2 x3 x4 x5 x6 x7 x8=some r)(m):
 ax al 135 [rr x1 x2 x3 x4 x5 x6 x7 x8] m (Xp m (.agg #[.bool r.1,XM r.2.1,XM r.2.2.1,XM r.2.2.2.1,XM r.2.2.2.2.1,XM r.2.2.2.2.2.1,XM r.2.2.2.2.2.2.1,XM r.2.2.2.2.2.2.2.1,XM r.2.2.2.2.2.2.2.2])):=by
 unfold IP at hF;refine cw Tryz.func135 (W3 m) ?_;refine wz ?_;refine wb fun b9=>?_;refine wa F0 fun b10=>?_;refine au ?_;refine WW (aN rfl rfl (gb _ _ rfl)) rfl ?_;refine wz ?_;refine WW (eZ rfl F0 rfl (eX MX rfl rfl rfl)) rfl<|wa F0 fun b11=>?_;refine wz ?_;refine WX ?_;obtain⟨r44,h43,hF⟩:=aa hF;refine ct (fun(v23,v24,v25,v26,v27,v28,v29,v30,v31) (_:XC)=>⟨.normal,[(2,ptr b10 0),(3,ptr b11 0)],[.obj b10 (.cells [.bool false,XM 0,XM 0,XM 0,XM 0,XM 0,XM 0,XM 0,XM 0] .own),OE b11 v23 v24 v25 v26 v27 v28 v29 v30 v31]⟩) r44 ?_ ?_;clear hF;revert r44;intro r hF;refine wz ?_;rcases ah hF with⟨h32,hF⟩|⟨h32,hF⟩;refine wz ?_;refine WW (eZ rfl JK rfl (eX JN rfl rfl rfl)) rfl ?_;refine wz ?_;obtain⟨⟨r34,r35,r36,r37,r38,r39,r40,r41,r42⟩,h33,hF⟩:=aa hF;refine wc gn (fun m hm=>E4 h33 m) ?_;rintro⟨⟩;refine wz ?_;cases hF;exact ae () [1,0];refine wz ?_;cases hF;exact ae () [1,0];clear h43;obtain⟨v23,v24,v25,v26,v27,v28,v29,v30,v31⟩:=r44;rintro⟨⟩;refine eO ?_;cases hF;exact W2 (.cell (k:=0) MQ rfl rfl rfl .nil) fun m' hm=>⟨(),rfl,(ai.an [] rfl rfl) m' hm⟩
def gE{n x1 l2 a3 c4 r}(hF:nb n x1 l2=some r)(m){H:WI}(hH:∀b,H b->b<m.next)(h5:cz m a3 c4 l2)(h6:∀b,cC a3=some b->¬H b):
 ax al 166 [bz x1,bg a3 l2 c4] m (fun v m'=>∃x:WH×Nat×Nat,v=.agg #[.bool r.1,.slice x.1 x.2.2 x.2.1]/\Hp m m' [.rd x.1 x.2.1 1 x.2.2 (r.2.map XJ),aP H]):=by
 unfold nb at hF;refine cw Tryz.func166 (W6 (l0:=[]) (Xb m hH) bM h5 h6) ?_;refine wz ?_;refine wa iZ fun b7=>?_;refine au ?_;refine WX<|W0 ?_;obtain⟨v43,h76,hF⟩:=aa hF;refine ct (fun v43 (_:XC)=>⟨(.exit 0),[(0,bz x1),(1,bg a3 l2 c4),(4,ptr b7 0),(5,bH v43)],[cY a3 c4 l2,uu b7,aP H]⟩) v43 ?_ ?_;refine lo h76 () [1,0,2] (fun v9 _=>⟨.normal,[(0,bz x1),(1,bg a3 l2 c4),(4,ptr b7 0),(5,bH v9)],[cY a3 c4 l2,uu b7,aP H]⟩) ?_;clear hF h76;rintro v9 ⟨⟩ r hF;unfold oO at hF;refine WX<|WX ?_;obtain⟨v66,h73,hF⟩:=aa hF;refine ct (fun v66 (_:XC)=>⟨.normal,[(0,bz x1),(1,bg a3 l2 c4),(4,ptr b7 0),(5,bH v9),(17,bz v66)],[cY a3 c4 l2,uu b7,aP H]⟩) v66 ?_ ?_;clear hF;revert v66;intro r hF;refine wz ?_;rcases ah hF with⟨h67,hF⟩|⟨h67,hF⟩;refine wz ?_;obtain⟨h68,hF⟩:=bU hF;refine Xc (k:=0) rfl (aG h68) ?_;rintro b69 o70 rfl;refine wz ?_;obtain⟨x71,h72,hF⟩:=aa hF;refine wz ?_;cases hF;exact ae () [1,2,3];refine wz ?_;cases hF;exact ae () [0,1,2];rintro⟨⟩;refine W5 ?_;rcases ah hF with⟨h75,hF⟩|⟨h75,hF⟩;refine au ?_;cases hF;exact ae () [0,1,2];refine wz ?_;cases hF;exact ae () [0,1,2];rintro⟨⟩;refine au ?_;rcases ah hF with⟨h78,hF⟩|⟨h78,hF⟩;refine wz ?_;obtain⟨h79,hF⟩:=aD hF;refine W9 (wo (k:=0) (lo:=0) (hi:=v43) mA rfl rfl rfl rfl h79 (.inl ⟨rfl,rfl⟩) (.inr ⟨_,rfl⟩)) gn rfl ?_;rintro⟨a80,c81⟩;refine WW (eZ rfl iZ rfl (eX A3 rfl rfl rfl)) rfl ?_;refine au ?_;cases hF;exact W2 (.cell (k:=2) bC rfl rfl rfl .nil) fun m' hm=>⟨(a80,c81,(((l2.drop WR).take ((v43:Int).toNat-WR)).length)),rfl,(ai.an [0,3] rfl rfl) m' hm⟩;refine wz ?_;obtain⟨h82,hF⟩:=aD hF;refine W9 (wo (k:=0) (lo:=0) (hi:=v43) mA rfl rfl rfl rfl h82 (.inl ⟨rfl,rfl⟩) (.inr ⟨_,rfl⟩)) gn rfl ?_;rintro⟨a83,c84⟩;refine WW (eZ rfl iZ rfl (eX A3 rfl rfl rfl)) rfl ?_;refine au ?_;cases hF;exact W2 (.cell (k:=2) bC rfl rfl rfl .nil) fun m' hm=>⟨(a83,c84,(((l2.drop WR).take ((v43:Int).toNat-WR)).length)),rfl,(ai.an [0,3] rfl rfl) m' hm⟩
def xE{n x1 x2 x3 x4 x5 x6 x7 x8 r}(hF:Lc n x1 x2 x3 x4 x5 x6 x7 x8=some r)(m){H:WI}(hH:∀b,H b->b<m.next):
 ax al 88 [rr x1 x2 x3 x4 x5 x6 x7 x8] m (fun v m'=>∃x:WH×Nat×Nat,v=.agg #[.bool r.1,.slice x.1 x.2.2 x.2.1]/\Hp m m' [.rd x.1 x.2.1 1 x.2.2 (r.2.map XJ),aP H]):=by
 unfold Lc at hF;refine cw Tryz.func88 (Xb m hH) ?_;refine wz ?_;refine wb fun b9=>?_;refine wa iZ fun b10=>?_;refine au ?_;obtain⟨⟨r12,r13,r14,r15,r16,r17,r18,r19,r20⟩,h11,hF⟩:=aa hF;refine wc gn (fun m hm=>K2 h11 m) ?_;rintro⟨⟩;refine wa F0 fun b21=>?_;refine wz ?_;refine WX<|Xd (prs:=[(1,5)]) (by kernel_rfl)<|WY (bJ (r:=ptr b21 0) rfl (D7 _ _)) rfl<|Wn.QC rfl (aV (k:=0) Au rfl rfl rfl) rfl<|Wn.x (fc (es:=([]:XB (Nat)).map XJ) mA rfl (fb mA z53 rfl rfl) rfl rfl) gn rfl fun b22=>?_
 refine WY (bJ (r:=ptr b21 1) rfl (DJ _ _)) rfl<|Xh (QL (k:=1) nL rfl rfl rfl rfl) gn rfl ?_;obtain⟨h23,hF⟩:=aD hF;refine Wn.bT (ai.close (k:=0) rfl)<|Wn.xk (l:=[b21]) (RZ (k:=0) (xs:=([]:XB (Nat))) (ys:=([r13,r14,r15,r16,r17,r18,r19,r20]:XB (Nat))) (cl .u64) mA ⟨_,JD⟩ rfl rfl (fun m hm=>hm.TK (k:=1) (xs:=([r13,r14,r15,r16,r17,r18,r19,r20]:XB (Nat))) (f:=eN .u64) rfl rfl rfl rfl (cl .u64)) h23) ⟨⟨_,1,rfl,rfl,fun _=>⟨1,rfl⟩⟩,trivial⟩ gn rfl fun a24=>?_;obtain⟨⟨r26,l27⟩,h25,hF⟩:=aa hF;refine Wn.bT (ai.freeze (k:=0) rfl)<|nv gn (fun m hm=>gE h25 m hm.aj (hm.q 0) (hm.no 0)) ?_;rintro⟨a28,GV,n30⟩;refine W1 (k:=0) rfl ?_;rintro rfl;refine Xf (da (k:=3) bC rfl rfl rfl rfl rfl) ?_;refine W8 (fun m hm=>(by(first|refine eM.rk rfl rfl rfl (by simp) ?_|refine eM.step rfl ?_); exact eM.nil)) ?_
 refine au ?_;cases hF;exact W2 (.cell (k:=3) bC rfl rfl rfl .nil) fun m' hm=>⟨(a28,GV,l27.length),rfl,(ai.an [0,5] rfl rfl) m' hm⟩
def Cl{n x1 r}(hF:Me n x1=some r)(m){H:WI}(hH:∀b,H b->b<m.next):
 ax al 85 [bH x1] m (fun v m'=>∃x:WH×Nat×Nat,v=.agg #[.bool r.1,.slice x.1 x.2.2 x.2.1]/\Hp m m' [.rd x.1 x.2.1 1 x.2.2 (r.2.map XJ),aP H]):=by
 unfold Me at hF;refine cw Tryz.func85 (Xb m hH) ?_;refine wz ?_;refine wa iZ fun b2=>?_;refine au ?_;obtain⟨⟨r4,r5,r6,r7,r8,r9,r10,r11⟩,h3,hF⟩:=aa hF;refine wc gn (fun m hm=>JX h3 m) ?_;rintro⟨⟩;obtain⟨⟨r13,l14⟩,h12,hF⟩:=aa hF;refine wv gn (fun m hm=>xE h12 m hm.aj) ?_;rintro⟨a15,c16,n17⟩;refine W4 (k:=0) rfl ?_;rintro rfl;refine au ?_;cases hF;exact W2 (.cell (k:=1) bC rfl rfl rfl .nil) fun m' hm=>⟨(a15,c16,l14.length),rfl,(ai.an [0,2] rfl rfl) m' hm⟩
def nY{n x1 x2 x3 x4 x5 x6 x7 x8 x9 x10 x11 x12 x13 x14 x15 x16 r}(hF:GW n x1 x2 x3 x4 x5 x6 x7 x8 x9 x10 x11 x12 x13 x14 x15 x16=some r)(m){H:WI}(hH:∀b,H b->b<m.next):
 ax al 97 [J3 x1 x2 x3 x4 x5 x6 x7 x8 x9 x10 x11 x12 x13 x14 x15 x16] m (fun v m'=>∃x:WH×Nat×Nat×WH×Nat×Nat,v=.agg #[.bool r.1,.slice x.1 x.2.2.1 x.2.1,.bool r.2.2.1,.slice x.2.2.2.1 x.2.2.2.2.2 x.2.2.2.2.1]/\Hp m m' [.rd x.1 x.2.1 1 x.2.2.1 (r.2.1.map XJ),.rd x.2.2.2.1 x.2.2.2.2.1 1 x.2.2.2.2.2 (r.2.2.2.map XJ),aP H]):=by
 unfold GW at hF;refine cw Tryz.func97 (Xb m hH) ?_;refine wz ?_;refine wb fun b17=>?_;refine wa gj fun b18=>?_;refine wz ?_;refine WX<|Xd (prs:=[(2,4)]) (by kernel_rfl)<|WY (bJ (r:=ptr b17 0) rfl (zm _ _)) rfl<|WY (aV (k:=1) kY rfl rfl rfl) rfl ?_
 obtain⟨⟨r20,l21⟩,h19,hF⟩:=aa hF;refine nv gn (fun m hm=>xE h19 m hm.aj) ?_;rintro⟨a22,c23,n24⟩;refine W1 (k:=0) rfl ?_;rintro rfl;refine WY (bJ (r:=ptr b17 8) rfl (zB _ _)) rfl<|WY (aV (k:=2) kY rfl rfl rfl) rfl ?_;obtain⟨⟨r26,l27⟩,h25,hF⟩:=aa hF;refine nv gn (fun m hm=>xE h25 m hm.aj) ?_;rintro⟨a28,GV,n30⟩;refine W1 (k:=0) rfl ?_;rintro rfl;refine WY (eZ rfl gj rfl (eX DV rfl rfl rfl)) rfl<|Xf (da (k:=2) ca rfl rfl rfl rfl rfl)<|W8 (fun m hm=>eM.all rfl) ?_;refine au ?_;cases hF;exact W2 (.cell (k:=2) ca rfl rfl rfl .nil) fun m' hm=>⟨(a22,c23,l21.length,a28,GV,l27.length),rfl,(ai.an [1,0,4] rfl rfl) m' hm⟩
def yW{n x1 l2 a3 c4 r}(hF:Nf n x1 l2=some r)(m)(h5:cz m a3 c4 l2):
 ax al 98 [eL x1 a3 l2 c4] m (Xp m (.int .i64 r)):=by
 unfold Nf at hF;refine cw Tryz.func98 (Xa (W3 m) bM h5) ?_;refine wz ?_;refine wb fun b6=>?_;refine au ?_;rcases ah hF with⟨h7,hF⟩|⟨h7,hF⟩;refine au ?_;cases hF;exact ar () [];refine wz ?_;rcases ah hF with⟨h8,hF⟩|⟨h8,hF⟩;refine au ?_;cases hF;exact ar () [];refine eO ?_;cases hF;exact ar () []
def Mg{n x1 r}(hF:JY n x1=some r)(m):
 ax al 220 [bP x1] m (Xp m (.int .i64 r)):=by
 unfold JY at hF;refine cw Tryz.func220 (W3 m) ?_;refine wz ?_;refine WX ?_;obtain⟨r7,h6,hF⟩:=aa hF;refine ct (fun(v3,v4) (_:XC)=>⟨.normal,[(0,bP v3),(2,bH v4)],[]⟩) r7 ?_ ?_;clear hF;revert r7;intro r hF;refine wz ?_;rcases ah hF with⟨h5,hF⟩|⟨h5,hF⟩;refine wz ?_;refine WW (aN rfl rfl (gb _ _ rfl)) rfl ?_;refine au ?_;cases hF;exact ae () [];refine wz ?_;cases hF;exact ae () [];clear h6;obtain⟨v3,v4⟩:=r7;rintro⟨⟩;refine W5<|WX ?_;obtain⟨r13,h12,hF⟩:=aa hF;refine ct (fun(v9,v10) (_:XC)=>⟨.normal,[(0,bP v9),(2,bH v10)],[]⟩) r13 ?_ ?_;clear hF;revert r13;intro r hF;refine wz ?_;rcases ah hF with⟨h11,hF⟩|⟨h11,hF⟩;refine wz ?_;refine WW (aN rfl rfl (gb _ _ rfl)) rfl ?_;refine au ?_;cases hF;exact ae () [];refine wz ?_;cases hF;exact ae () [];clear h12;obtain⟨v9,v10⟩:=r13;rintro⟨⟩;refine W5<|WX ?_;obtain⟨r19,h18,hF⟩:=aa hF;refine ct (fun(v15,v16) (_:XC)=>⟨.normal,[(0,bP v15),(2,bH v16)],[]⟩) r19 ?_ ?_;clear hF;revert r19;intro r hF;refine wz ?_;rcases ah hF with⟨h17,hF⟩|⟨h17,hF⟩;refine wz ?_;refine WW (aN rfl rfl (gb _ _ rfl)) rfl ?_;refine au ?_;cases hF;exact ae () [];refine wz ?_;cases hF;exact ae () [];clear h18;obtain⟨v15,v16⟩:=r19;rintro⟨⟩;refine au ?_;refine WW (jh rfl (RO (by rw[DU]; rfl) u5 rfl)) rfl ?_
 obtain⟨h20,hF⟩:=aD hF;obtain⟨y22,h21,hF⟩:=aa hF;refine WW (Qs gC u9 rfl (by rfl) rfl h20 h21) rfl<|WW (jh rfl (pq (by rw[u5]; rfl) u3)) rfl ?_
 refine au ?_;cases hF;exact ar () []
def E9{n x1 r}(hF:Dc n x1=some r)(m):
 ax al 294 [bP x1] m (Xp m (.int .i64 r)):=by
 unfold Dc at hF;refine cw Tryz.func294 (W3 m) ?_;refine au ?_;obtain⟨r3,h2,hF⟩:=aa hF;refine wc gn (fun m hm=>Mg h2 m) ?_;rintro⟨⟩;refine au ?_;cases hF;exact ar () []
def Lk{n x1 x2 x3 r}(hF:ID n x1 x2 x3=some r)(m):
 ax al 279 [bP x1,bP x2,bP x3] m (Xp m (.tuple #[XM r.1,XM r.2])):=by
 unfold ID at hF;refine cw Tryz.func279 (W3 m) ?_;refine au ?_;rcases ah hF with⟨h8,hF⟩|⟨h8,hF⟩;refine Wk.fW rfl h8 ?_;cases hF;refine au ?_;rcases ah hF with⟨h9,hF⟩|⟨h9,hF⟩;refine Wk.fW rfl h9 ?_;cases hF;refine au ?_;rcases ah hF with⟨h10,hF⟩|⟨h10,hF⟩;refine wz ?_;obtain⟨h11,hF⟩:=aD hF;refine WW (aN rfl rfl (lR rfl _ _ (of_decide_eq_true h11))) rfl ?_;refine wz ?_;obtain⟨h12,hF⟩:=aD hF;refine WW (aN rfl rfl (kX _ _ (of_decide_eq_true h12))) rfl ?_;refine au ?_;cases hF;exact ar () [];refine au ?_;obtain⟨r1,h13,hF⟩:=aa hF;refine wc gn (fun m hm=>E9 h13 m) ?_;rintro⟨⟩;refine WW (jh rfl (yM (by rw[u3]; rfl) Tz rfl)) rfl ?_
 refine au ?_;refine WW (aN rfl rfl (qJ rfl _ _ (nn _))) rfl ?_;refine au ?_;refine WW (aN rfl rfl (gb _ _ rfl)) rfl ?_;refine eO ?_;refine WW (aN rfl rfl (qJ rfl _ _ (nn _))) rfl ?_;refine wz ?_;refine WW (aN rfl rfl (gb _ _ (nn _))) rfl ?_;obtain⟨y2,h14,hF⟩:=aa hF;refine WW (aN rfl rfl ((EY rfl _ _).trans (cN h14))) rfl ?_;refine au ?_;refine WW (aN rfl rfl (qJ rfl _ _ (nn _))) rfl ?_;refine au ?_;refine WW (aN rfl rfl (gb _ _ rfl)) rfl ?_;refine eO ?_;obtain⟨h15,hF⟩:=aD hF;refine WW (aN rfl rfl (lR rfl _ _ (of_decide_eq_true h15))) rfl ?_;refine wz ?_;refine WX<|WZ<|WW (aI rfl) rfl<|WW (aI rfl) rfl<|WW (aI rfl) rfl ?_;obtain⟨y4,h16,hF⟩:=aa hF;refine WW (aN rfl rfl ((eJ rfl _ _).trans (cN h16))) rfl ?_;refine wz ?_;refine WX<|W0 ?_;obtain⟨r0,h0,hF⟩:=aa hF;refine ct (fun(v0,v1,v4,v5,v19,v2,v3) (_:XC)=>⟨(.exit 0),[(2,bP v0),(8,bP v1),(9,bP v4),(10,bP v5),(11,bP y2),(13,bP v19),(14,bP v2),(15,bP v3)],[]⟩) r0 ?_ ?_;refine lo h0 () [] (fun(v8,v9,v10,v11,v12,v13,v14,v15) _=>⟨.normal,[(2,bP v8),(8,bP v9),(9,bP v10),(10,bP v11),(11,bP y2),(13,bP v12),(14,bP v13),(15,bP v14),(16,bP v15)],[]⟩) ?_;clear hF h0;rintro⟨v8,v9,v10,v11,v12,v13,v14,v15⟩ ⟨⟩ r hF;unfold tY at hF;refine WX<|WX ?_;obtain⟨v6,h17,hF⟩:=aa hF;refine ct (fun v6 (_:XC)=>⟨.normal,[(2,bP v8),(8,bP v9),(9,bP v10),(10,bP v11),(11,bP y2),(13,bP v12),(14,bP v13),(15,bP v14),(16,bP v15),(78,bz v6)],[]⟩) v6 ?_ ?_;clear hF;revert v6;intro r hF;refine wz ?_;rcases ah hF with⟨h5,hF⟩|⟨h5,hF⟩;refine wz ?_;cases hF;exact ae () [];refine wz ?_;refine Xj (aN rfl rfl (eJ rfl _ _)) (gg rfl rfl (qZ h5)) rfl ?_;refine wz ?_;refine Xj (aN rfl rfl (eJ rfl _ _)) (gg rfl rfl (qZ h5)) rfl ?_;refine wz ?_;cases hF;exact ae () [];rintro⟨⟩;refine W5 ?_;rcases ah hF with⟨h18,hF⟩|⟨h18,hF⟩;refine R8 ?_;rcases ah hF with⟨h19,hF⟩|⟨h19,hF⟩;refine wz ?_;cases hF;exact ae () [];refine wz ?_;cases hF;exact ae () [];refine wz ?_;cases hF;exact ae () [];clear h0;obtain⟨v0,v1,v4,v5,v19,v2,v3⟩:=r0;rintro⟨⟩;refine au ?_;refine WW (aN rfl rfl (eJ rfl _ _)) rfl ?_;refine wz ?_;refine WW (aN rfl rfl (eJ rfl _ _)) rfl ?_;obtain⟨y3,h20,hF⟩:=aa hF;refine WW (aN rfl rfl ((yk rfl _ _).trans (cN h20))) rfl ?_;refine au ?_;obtain⟨h21,hF⟩:=aD hF;refine WW (aN rfl rfl (lR rfl _ _ (of_decide_eq_true h21))) rfl ?_;refine au ?_;refine WW (aN rfl rfl (eJ rfl _ _)) rfl ?_;refine wz ?_;refine WX<|W0 ?_;obtain⟨v16,h6,hF⟩:=aa hF;refine ct (fun v16 (_:XC)=>⟨(.exit 2),[(2,bP v0),(8,bP v1),(14,bP v2),(15,bP v3),(17,bP y3),(18,bP v16)],[]⟩) v16 ?_ ?_;refine lo h6 () [] (fun(v17,v18) _=>⟨.normal,[(2,bP v0),(8,bP v1),(9,bP v4),(10,bP v5),(14,bP v2),(15,bP v3),(16,bP v17),(17,bP y3),(18,bP v18)],[]⟩) ?_;clear hF h6;rintro⟨v17,v18⟩ ⟨⟩ r hF;unfold fS at hF;refine WX<|WX ?_;obtain⟨v7,h22,hF⟩:=aa hF;refine ct (fun v7 (_:XC)=>⟨.normal,[(2,bP v0),(8,bP v1),(9,bP v4),(10,bP v5),(14,bP v2),(15,bP v3),(16,bP v17),(17,bP y3),(18,bP v18),(113,bz v7)],[]⟩) v7 ?_ ?_;clear hF;revert v7;intro r hF;refine wz ?_;rcases ah hF with⟨h7,hF⟩|⟨h7,hF⟩;refine wz ?_;cases hF;exact ae () [];refine wz ?_;refine Xj (aN rfl rfl (eJ rfl _ _)) (gg rfl rfl (qZ h7)) rfl ?_;refine wz ?_;refine Xj (aN rfl rfl (eJ rfl _ _)) (gg rfl rfl (qZ h7)) rfl ?_;refine wz ?_;cases hF;exact ae () [];rintro⟨⟩;refine W5 ?_;rcases ah hF with⟨h23,hF⟩|⟨h23,hF⟩;refine R8 ?_;rcases ah hF with⟨h24,hF⟩|⟨h24,hF⟩;refine wz ?_;cases hF;exact ae () [];refine wz ?_;cases hF;exact ae () [];refine wz ?_;cases hF;exact ae () [];rintro⟨⟩;refine au ?_;refine WW (aN rfl rfl (eJ rfl _ _)) rfl ?_;refine wz ?_;refine WW (aN rfl rfl (eJ rfl _ _)) rfl ?_;refine wz ?_;refine WW (aN rfl rfl (eJ rfl _ _)) rfl ?_;obtain⟨y5,h25,hF⟩:=aa hF;refine WW (aN rfl rfl ((yk rfl _ _).trans (cN h25))) rfl ?_;refine wz ?_;refine WW (aN rfl rfl (gb _ _ (nn _))) rfl ?_;refine au ?_;cases hF;exact ar () []
def DB{n l1 a2 c3 r}(hF:Gb n l1=some r)(m)(h4:cz m a2 c3 l1):
 ax al 280 [bg a2 l1 c3] m (Xp m (.int .i64 r)):=by
 unfold Gb at hF;refine cw Tryz.func280 (Xa (W3 m) bM h4) ?_;refine WX<|WZ<|WW (cW rfl) rfl<|W7<|W5<|WX<|WX<|WZ<|WW (aI rfl) rfl<|WW (td (k:=0) JD rfl rfl (.inl rfl)) rfl<|WW (aN rfl rfl (pf _ _ _)) rfl<|W7<|W5 ?_;rcases ah hF with⟨h5,hF⟩|⟨h5,hF⟩;refine Wk.fW rfl h5<|WX<|WZ<|WW (cW rfl) rfl<|W7<|W5<|Wk.ret<|At.tr ?_;cases hF;exact ar () [];refine Wk.lN rfl h5<|Wk.skip<|W5<|WX<|WZ<|WW (aI rfl) rfl<|WW (td (k:=0) JD rfl rfl (.inl rfl)) rfl<|WW (aN rfl rfl (mY _ _ _)) rfl<|WW (aI rfl) rfl<|WW (aI rfl) rfl<|WW (td (k:=0) JD rfl rfl (.inl rfl)) rfl<|WW (aN rfl rfl (jl _ _ _)) rfl ?_;obtain⟨h6,hF⟩:=bU hF;refine Xc (k:=0) rfl (aG h6) ?_;rintro b7 o8 rfl;refine Xj (ew mA rfl rfl h6) gn rfl ?_;obtain⟨x9,h10,hF⟩:=aa hF;refine WW (jD (k:=0) lA rfl rfl (eH h10) rfl rfl) rfl ?_;obtain⟨r12,h11,hF⟩:=aa hF;refine wc gn (fun m hm=>E9 h11 m) ?_;rintro⟨⟩;refine WW (aN rfl rfl (jl _ _ _)) rfl<|WW (cW rfl) rfl<|W7<|W5<|Wk.ret ?_;cases hF;exact ar () []
def My{n l1 x3 a1 c0 r}(hF:Ir n l1 x3=some r)(m){H:WI}(hH:∀b,H b->b<m.next)(h4:cz m a1 c0 l1)(h5:∀b,cC a1=some b->¬H b):
 ax al 281 [bg a1 l1 c0,bH x3] m (fun v m'=>∃x:WH×Nat×Nat,v=.slice x.1 x.2.2 x.2.1/\Hp m m' [.rd x.1 x.2.1 1 x.2.2 (r.map XJ),aP H]):=by
 unfold Ir at hF;refine cw Tryz.func281 (W6 (l0:=[]) (Xb m hH) bM h4 h5) ?_;refine au ?_;refine WW (aN rfl rfl (mw _ _ (by decide))) rfl ?_
 obtain⟨y3,h6,hF⟩:=aa hF;refine WW (aN rfl rfl ((dv _ _ _).trans (cI h6))) rfl ?_;refine wz ?_;obtain⟨h7,hF⟩:=aD hF;obtain⟨h8,hF⟩:=aD hF;refine W9 (lG (f:=eN .u64) (z0:=(0:Nat)) mA rfl h7 h8 z53 rfl rfl) gn rfl fun b0=>?_;refine au ?_;refine W0 ?_;obtain⟨r0,h0,hF⟩:=aa hF;refine ct (fun(l3,n3) (a3:WH)=>⟨(.exit 0),[(5,iM a3 n3)],[vg a3 n3 l3,aP H]⟩) r0 ?_ ?_;refine lw h0 (some ⟨b0,0,none⟩) (fun(l4,n2,v0) a2=>⟨.normal,[(1,bH x3),(5,iM a2 n2),(15,bg a1 l1 c0),(16,ep l1),(17,bH v0)],[vg a2 n2 l4,cY a1 c0 l1,aP H]⟩) (ai.trans (ai.close (k:=0) rfl) (ai.an [0,1,2] rfl rfl)) ?_;clear hF h0;rintro⟨l4,n2,v0⟩ a2 r hF;unfold qh at hF;refine wz ?_;refine WX ?_;rcases ah hF with⟨h9,hF⟩|⟨h9,hF⟩;refine wz ?_;refine WX ?_;obtain⟨l2,h10,hF⟩:=aa hF;refine ct (fun l2 (_:XC)=>⟨.normal,[(1,bH x3),(5,iM a2 n2),(15,bg a1 l1 c0),(16,ep l1),(17,bH v0)],[vg a2 n2 l2,cY a1 c0 l1,aP H]⟩) l2 ?_ ?_;clear hF;revert l2;intro r hF;refine wz ?_;obtain⟨h11,hF⟩:=bU hF;refine Xc (k:=1) rfl (aG h11) ?_;rintro b1 o3 rfl;refine wz ?_;obtain⟨x4,h21,hF⟩:=aa hF;refine au ?_;refine WW (aN rfl rfl (mw _ _ (by decide))) rfl ?_
 refine wz ?_;obtain⟨h12,hF⟩:=bU hF;refine Xg (k:=1) rfl (aG h12) ?_;rintro b2 t0 rfl h22;refine wz ?_;obtain⟨x5,h13,hF⟩:=aa hF;refine wz ?_;refine WW (aN rfl rfl (iV _ _ (by decide))) rfl ?_
 obtain⟨h14,hF⟩:=aD hF;refine WW (aN rfl rfl (qJ rfl _ _ h14)) rfl ?_;obtain⟨y2,h15,hF⟩:=aa hF;refine WW (aN rfl rfl ((EY rfl _ _).trans (cN h15))) rfl ?_;obtain⟨h23,hF⟩:=bU hF;refine wz ?_;refine Xi (eG (k:=1) (x1:=x5) (x2:=y2) lA rfl rfl rfl h13 rfl) ?_;refine au ?_;refine WW (aN rfl rfl (iV _ _ (by decide))) rfl ?_
 refine wz ?_;rcases ah hF with⟨h16,hF⟩|⟨h16,hF⟩;refine wz ?_;refine WW (aN rfl rfl (mw _ _ (by decide))) rfl<|WW (aN rfl rfl (dv _ _ _)) rfl ?_
 obtain⟨y4,h17,hF⟩:=aa hF;refine WW (aN rfl rfl ((dv _ _ _).trans (cI h17))) rfl ?_;refine wz ?_;refine WW (aN rfl rfl (iV _ _ (by decide))) rfl ?_
 refine wz ?_;obtain⟨h18,hF⟩:=aD hF;refine WW (aN rfl rfl (gb _ _ h18)) rfl ?_;obtain⟨h24,hF⟩:=bU hF;refine wz ?_;obtain⟨x6,h19,hF⟩:=aa hF;refine Xi (eG (k:=1) (x1:=x6) (x2:=dh .u64 x4 (WQ (64-(Int.tmod x3 64))).toNat) lA rfl rfl rfl h19 rfl) ?_;refine wz ?_;cases hF;exact aT () (ai.trans (ai.close (k:=1) rfl) (ai.an [1,2,3] rfl rfl));refine wz ?_;cases hF;exact aT () (ai.trans (ai.close (k:=1) rfl) (ai.an [1,2,3] rfl rfl));rintro⟨⟩;refine au ?_;cases hF;exact ae a2 [0,1,2];refine wz ?_;cases hF;exact ae a2 [0,2];clear h0;obtain⟨l3,n3⟩:=r0;rintro a3;refine wz ?_;refine WX<|WZ<|WW (aI rfl) rfl ?_;obtain⟨⟨r1,l7⟩,h20,hF⟩:=aa hF;refine Xe (ai.freeze (k:=0) rfl) ?_;have hFx:=hF;refine W4 (k:=0) (xs:=(l3:XB (Nat))) rfl ?_;rintro rfl;replace hF:=hFx;clear hFx;refine wv gn (fun m hm=>gE h20 m hm.aj (hm.q 0) (hm.no 0)) ?_;rintro⟨a4,c1,n5⟩;refine W4 (k:=0) rfl ?_;rintro rfl;refine WW (Lw rfl ((xx _).trans (jH nI rfl))) rfl ?_;refine au ?_;obtain rfl:=Ug hF;exact ar (a4,c1,l7.length) [0,2]
def D5{n l1 l5 a2 c3 a6 c7 r}(hF:F9 n l1 l5=some r)(m)(h4:cz m a2 c3 l1)(h8:cz m a6 c7 l5):
 ax al 248 [bg a2 l1 c3,bg a6 l5 c7] m (Xp m (.int .i64 r)):=by
 unfold F9 at hF;refine cw Tryz.func248 (Xa (Xa (W3 m) bM h4) (cA bM) h8) ?_;refine au ?_;rcases ah hF with⟨h9,hF⟩|⟨h9,hF⟩;refine au ?_;cases hF;exact ar () [];refine au ?_;refine W0 ?_;obtain⟨r45,h44,hF⟩:=aa hF;refine ct (fun(r:Int⊕XC) (g:XC)=>match r,g with|.inl v28,_=>⟨.ret,[(4,bH v28)],[]⟩|.inr _,_=>⟨(.exit 0),[],[]⟩) r45 ?_ ?_
 refine lo h44 () [1,0] (fun v11 _=>⟨.normal,(tX a2 l1 c3 a6 l5 c7 [(5,bH v11)]),[cY a2 c3 l1,cY a6 c7 l5]⟩) ?_;clear hF h44;rintro v11 ⟨⟩ r hF;unfold lL at hF;refine wz ?_;rcases ah hF with⟨h29,hF⟩|⟨h29,hF⟩;refine au ?_;obtain⟨h30,hF⟩:=bU hF;refine Xc (k:=0) rfl (aG h30) ?_;rintro b31 o32 rfl;refine wz ?_;obtain⟨x33,h34,hF⟩:=aa hF;refine wz ?_;obtain⟨h35,hF⟩:=bU hF;refine Xc (k:=2) rfl (aG h35) ?_;rintro b36 o37 rfl;refine wz ?_;obtain⟨x38,h39,hF⟩:=aa hF;refine wz ?_;rcases ah hF with⟨h40,hF⟩|⟨h40,hF⟩;refine au ?_;cases hF;exact ae () [];refine wz ?_;obtain⟨h41,hF⟩:=bU hF;refine wz ?_;obtain⟨h42,hF⟩:=bU hF;refine wz ?_;rcases ah hF with⟨h43,hF⟩|⟨h43,hF⟩;refine au ?_;cases hF;exact ae () [];refine au ?_;cases hF;exact ae () [2,3];refine wz ?_;cases hF;exact ae () [];rcases r45 with v28|_;rintro⟨⟩;refine wz ?_;obtain rfl:=Ug hF;exact ar () [];rintro⟨⟩;refine eO ?_;cases hF;exact ar () []
def DA{n l1 l5 a2 c0 a1 c1 r}(hF:GQ n l1 l5=some r)(m)(h4:cz m a2 c0 l1)(h5:cz m a1 c1 l5):
 ax al 249 [bg a2 l1 c0,bg a1 l5 c1] m (fun v m'=>∃x:WH×Nat,v=.slice x.1 x.2 x.2/\Hp m m' [.sl x.1 1 x.2 (r.map XJ)]):=by
 unfold GQ at hF;refine cw Tryz.func249 (Xa (Xa (W3 m) bM h4) (cA bM) h5) ?_;refine au ?_;obtain⟨h6,hF⟩:=aD hF;obtain⟨h7,hF⟩:=aD hF;refine W9 (lG (f:=eN .u64) (z0:=(0:Nat)) mA rfl h6 h7 z53 rfl rfl) gn rfl fun b0=>?_;refine eO ?_;refine W0 ?_;obtain⟨l2,h0,hF⟩:=aa hF;refine ct (fun l2 (_:XC)=>⟨(.exit 0),[(5,F7 b0 l1)],[A7 b0 l1 l2]⟩) l2 ?_ ?_;refine lo h0 () [1,0,2] (fun(l3,v1,v2) _=>⟨.normal,[(1,bg a1 l5 c1),(5,F7 b0 l1),(6,bP v1),(13,bg a2 l1 c0),(14,ep l1),(15,bH v2)],[cY a1 c1 l5,A7 b0 l1 l3,cY a2 c0 l1]⟩) ?_;clear hF h0;rintro⟨l3,v1,v2⟩ ⟨⟩ r hF;unfold qd at hF;refine wz ?_;refine WX ?_;rcases ah hF with⟨h8,hF⟩|⟨h8,hF⟩;refine au ?_;obtain⟨h9,hF⟩:=bU hF;refine Xc (k:=2) rfl (aG h9) ?_;rintro b1 o3 rfl;refine wz ?_;obtain⟨x3,h15,hF⟩:=aa hF;refine au ?_;refine WX ?_;obtain⟨v0,h10,hF⟩:=aa hF;refine ct (fun v0 (_:XC)=>⟨.normal,[(1,bg a1 l5 c1),(5,F7 b0 l1),(6,bP v1),(7,bH v2),(8,bP x3),(9,bP v0),(13,lr b1 o3 l1 c0),(14,ep l1),(15,bH v2)],[cY a1 c1 l5,A7 b0 l1 l3,KW b1 o3 l1,Ko b1 o3 c0 l1]⟩) v0 ?_ ?_;clear hF;revert v0;intro r hF;refine wz ?_;rcases ah hF with⟨h11,hF⟩|⟨h11,hF⟩;refine wz ?_;obtain⟨h12,hF⟩:=bU hF;refine Xc (k:=1) rfl (aG h12) ?_;rintro b2 o4 rfl;refine wz ?_;obtain⟨x5,h16,hF⟩:=aa hF;refine wz ?_;obtain rfl:=Ug hF;exact ae () [2,3,1,4];refine wz ?_;cases hF;exact ae () [1,2,0,3];rintro⟨⟩;refine au ?_;obtain⟨⟨r0,r1⟩,h13,hF⟩:=aa hF;refine wc gn (fun m hm=>E0 n x3 v0 v1  _ h13 m) ?_;rintro⟨⟩;refine wz ?_;obtain⟨h17,hF⟩:=bU hF;refine wz ?_;obtain⟨x4,h14,hF⟩:=aa hF;refine Xi (eG (k:=1) (x1:=x4) (x2:=r0) lA rfl rfl rfl h14 rfl) ?_;refine au ?_;cases hF;exact ae () [0,1,3];refine wz ?_;cases hF;exact ae () [1];rintro⟨⟩;refine eO ?_;obtain rfl:=Ug hF;exact W2 (.tmp rfl .nil) fun m' hm=>⟨((some ⟨b0,0,none⟩),((l1.length:Int).toNat)),rfl,(ai.trans (ai.close (k:=0) rfl) (ai.an [0] rfl rfl)) m' hm⟩
def EC{n l1 l6 a2 c1 a1 c0 r}(hF:AJ n l1 l6=some r)(m){H:WI}(hH:∀b,H b->b<m.next)(h4:cz m a2 c1 l1)(h6:∀b,cC a2=some b->¬H b)(h7:cz m a1 c0 l6)(h8:∀b,cC a1=some b->¬H b):
 ax al 246 [bg a2 l1 c1,bg a1 l6 c0] m (fun v m'=>∃x:WH×Nat×Nat×WH×Nat×Nat,v=.tuple #[.slice x.1 x.2.2.1 x.2.1,.slice x.2.2.2.1 x.2.2.2.2.2 x.2.2.2.2.1]/\Hp m m' [.rd x.1 x.2.1 1 x.2.2.1 (r.1.map XJ),.rd x.2.2.2.1 x.2.2.2.2.1 1 x.2.2.2.2.2 (r.2.map XJ),aP H]):=by
 unfold AJ at hF;refine cw Tryz.func246 (W6 (l0:=[cY a2 c1 l1]) (W6 (l0:=[]) (Xb m hH) bM h4 h6) (cA bM) h7 h8) ?_;refine au ?_;obtain⟨h9,hF⟩:=aD hF;obtain⟨h10,hF⟩:=aD hF;refine W9 (lG (f:=eN .u64) (z0:=(0:Nat)) mA rfl h9 h10 z53 rfl rfl) gn rfl fun b0=>?_;refine au ?_;rcases ah hF with⟨h11,hF⟩|⟨h11,hF⟩;refine au ?_;refine W0 ?_;obtain⟨r1,h0,hF⟩:=aa hF;refine ct (fun(l7,v0) (_:XC)=>⟨(.exit 0),[(4,F7 b0 l1),(6,bP v0)],[A7 b0 l1 l7,aP H]⟩) r1 ?_ ?_;refine lo h0 () [2,1,0,3] (fun(l8,v2,v3) _=>⟨.normal,(tX a2 l1 c1 a1 l6 c0 [(4,F7 b0 l1),(6,bP v2),(7,bH v3)]),[cY a2 c1 l1,cY a1 c0 l6,A7 b0 l1 l8,aP H]⟩) ?_;clear hF h0;rintro⟨l8,v2,v3⟩ ⟨⟩ r hF;unfold qp at hF;refine wz ?_;rcases ah hF with⟨h12,hF⟩|⟨h12,hF⟩;refine au ?_;obtain⟨h13,hF⟩:=bU hF;refine Xc (k:=0) rfl (aG h13) ?_;rintro b1 o3 rfl;refine wz ?_;obtain⟨x5,h30,hF⟩:=aa hF;refine wz ?_;obtain⟨h14,hF⟩:=bU hF;refine Xc (k:=2) rfl (aG h14) ?_;rintro b2 o4 rfl;refine wz ?_;obtain⟨x6,h31,hF⟩:=aa hF;refine wz ?_;obtain⟨⟨r4,r5⟩,h15,hF⟩:=aa hF;refine wc gn (fun m hm=>Lk h15 m) ?_;rintro⟨⟩;refine wz ?_;obtain⟨h32,hF⟩:=bU hF;refine wz ?_;obtain⟨x3,h16,hF⟩:=aa hF;refine Xi (eG (k:=4) (x1:=x3) (x2:=r4) lA rfl rfl rfl h16 rfl) ?_;refine au ?_;cases hF;exact ae () [2,3,4,5];refine wz ?_;cases hF;exact ae () [2,3];clear h0;obtain⟨l7,v0⟩:=r1;rintro⟨⟩;refine au ?_;refine W9 (fc (es:=([v0]:XB (Nat)).map XJ) mA rfl (fb mA z53 rfl rfl) rfl rfl) gn rfl fun b3=>?_;obtain⟨⟨r6,l12⟩,h17,hF⟩:=aa hF;refine Xe (ai.close (k:=0) rfl)<|Xe (ai.freeze (k:=0) rfl)<|wv gn (fun m hm=>gE h17 m hm.aj (hm.q 0) (hm.no 0)) ?_;rintro⟨a6,c5,n2⟩;refine W4 (k:=0) rfl ?_;rintro rfl;refine WW (Lw rfl ((xx _).trans (jH nI rfl))) rfl ?_;refine au ?_;cases hF;exact W2 (.tmp rfl (.tmp rfl .nil)) fun m' hm=>⟨((some ⟨b0,0,none⟩),((l1.length:Int).toNat),((l1.length:Int).toNat),a6,c5,l12.length),rfl,(ai.trans (ai.close (k:=2) rfl) (ai.trans (ai.freeze (k:=2) rfl) (ai.an [2,0,3] rfl rfl))) m' hm⟩;refine eO ?_;obtain⟨r7,h18,hF⟩:=aa hF;refine wc gn (fun m hm=>DB h18 m (hm.q 2)) ?_;rintro⟨⟩;refine wz ?_;obtain⟨r8,h19,hF⟩:=aa hF;refine wc gn (fun m hm=>DB h19 m (hm.q 1)) ?_;rintro⟨⟩;refine wz ?_;refine W0 ?_;obtain⟨r3,h5,hF⟩:=aa hF;refine ct (fun(l9,l2) ((a4,c3):WH×Nat)=>⟨(.exit 2),[(4,F7 b0 l1),(5,bg a4 l2 c3)],[A7 b0 l1 l9,cY a4 c3 l2,aP H]⟩) r3 ?_ ?_;refine lo h5 (a2,c1) [1,0,2,3] (fun(l10,l3,v1) ((a3,c2):WH×Nat)=>⟨.normal,[(1,bg a1 l6 c0),(4,F7 b0 l1),(5,bg a3 l3 c2),(8,bH v1)],[cY a1 c0 l6,A7 b0 l1 l10,cY a3 c2 l3,aP H]⟩) ?_;clear hF h5;rintro⟨l10,l3,v1⟩ ⟨a3,c2⟩ r hF;unfold jI at hF;refine wz ?_;rcases ah hF with⟨h20,hF⟩|⟨h20,hF⟩;refine wz ?_;refine WX ?_;obtain⟨r0,h21,hF⟩:=aa hF;refine ct (fun(l11,l4) ((a5,c4):WH×Nat)=>⟨.normal,[(1,bg a1 l6 c0),(4,F7 b0 l1),(5,bg a5 l4 c4),(8,bH v1)],[cY a1 c0 l6,A7 b0 l1 l11,cY a5 c4 l4,aP H]⟩) r0 ?_ ?_;clear hF;revert r0;intro r hF;refine wz ?_;obtain⟨l14,h22,hF⟩:=aa hF;refine wv gn (fun m hm=>My h22 m hm.aj (hm.q 0) (hm.no 0)) ?_;rintro⟨a8,c7,n3⟩;refine W4 (k:=0) rfl ?_;rintro rfl;refine au ?_;obtain⟨r9,h23,hF⟩:=aa hF;refine wc gn (fun m hm=>D5 h23 m (hm.q 3) (hm.q 0)) ?_;rintro⟨⟩;refine wz ?_;rcases ah hF with⟨h24,hF⟩|⟨h24,hF⟩;refine wz ?_;obtain⟨l13,h25,hF⟩:=aa hF;refine wc gn (fun m hm=>DA h25 m (hm.q 3) (hm.q 0)) ?_;rintro⟨a9,n5⟩;refine Wo.len (k:=0) (xs:=l13) rfl ?_;rintro rfl;obtain⟨⟨r10,l15⟩,h26,hF⟩:=aa hF;refine Xe (ai.freeze (k:=0) rfl)<|wv gn (fun m hm=>gE h26 m hm.aj (hm.q 0) (hm.no 0)) ?_;rintro⟨a7,c6,n7⟩;refine W4 (k:=0) rfl ?_;rintro rfl;refine WW (Lw rfl ((xx _).trans (jH nI rfl))) rfl ?_;refine au ?_;refine WW (aN rfl rfl (mw _ _ (by decide))) rfl ?_
 obtain⟨h33,hF⟩:=bU hF;refine wz ?_;obtain⟨x4,h27,hF⟩:=aa hF;refine wz ?_;refine WW (aN rfl rfl (iV _ _ (by decide))) rfl ?_
 obtain⟨h28,hF⟩:=aD hF;refine WW (aN rfl rfl (qJ rfl _ _ h28)) rfl ?_;obtain⟨y2,h29,hF⟩:=aa hF;refine WW (aN rfl rfl ((EY rfl _ _).trans (cN h29))) rfl ?_;obtain⟨h34,hF⟩:=bU hF;refine wz ?_;refine Xi (eG (k:=4) (x1:=x4) (x2:=y2) lA rfl rfl rfl h27 rfl) ?_;refine wz ?_;cases hF;exact ae (a7,c6) [3,4,0,6];refine wz ?_;cases hF;exact ae (a3,c2) [1,2,3,4];clear h21;obtain⟨l11,l4⟩:=r0;rintro⟨a5,c4⟩;refine au ?_;cases hF;exact ae (a5,c4) [0,1,2,3];refine wz ?_;cases hF;exact ae (a3,c2) [1,2,3];clear h5;obtain⟨l9,l2⟩:=r3;rintro⟨a4,c3⟩;refine eO ?_;cases hF;exact W2 (.tmp rfl (.tmp rfl .nil)) fun m' hm=>⟨((some ⟨b0,0,none⟩),((l1.length:Int).toNat),((l1.length:Int).toNat),a4,c3,l2.length),rfl,(ai.trans (ai.close (k:=0) rfl) (ai.trans (ai.freeze (k:=0) rfl) (ai.an [0,1,2] rfl rfl))) m' hm⟩
def Ef{n x1 l2 x7 l8 a3 c4 a9 c10 r}(hF:FD n x1 l2 x7 l8=some r)(m){H:WI}(hH:∀b,H b->b<m.next)(h5:cz m a3 c4 l2)(h6:∀b,cC a3=some b->¬H b)(h11:cz m a9 c10 l8)(h12:∀b,cC a9=some b->¬H b):
 ax al 193 [eL x1 a3 l2 c4,eL x7 a9 l8 c10] m (fun v m'=>∃x:WH×Nat×Nat,v=.agg #[.bool r.1,.slice x.1 x.2.2 x.2.1]/\Hp m m' [.rd x.1 x.2.1 1 x.2.2 (r.2.map XJ),aP H]):=by
 unfold FD at hF;refine cw Tryz.func193 (W6 (l0:=[cY a3 c4 l2]) (W6 (l0:=[]) (Xb m hH) bM h5 h6) (cA bM) h11 h12) ?_;refine wz ?_;refine wb fun b13=>?_;refine wb fun b14=>?_;refine wa iZ fun b15=>?_;refine au ?_;refine WX<|W0 ?_;obtain⟨l48,h61,hF⟩:=aa hF;refine ct (fun l48 ((a49,c50):WH×Nat)=>⟨(.exit 0),[(4,ptr b15 0),(5,bg a49 l48 c50)],[uu b15,cY a49 c50 l48,aP H]⟩) l48 ?_ ?_;refine lo h61 (a3,c4,a9,c10) [0,4,3,5] (fun(l26,l29) ((a27,c28,a30,EN):WH×Nat×WH×Nat)=>⟨.normal,[(4,ptr b15 0),(5,bg a27 l26 c28),(6,bg a30 l29 EN)],[uu b15,cY a27 c28 l26,cY a30 EN l29,aP H]⟩) ?_;clear hF h61;rintro⟨l26,l29⟩ ⟨a27,c28,a30,EN⟩ r hF;unfold sI at hF;refine wz ?_;rcases ah hF with⟨h51,hF⟩|⟨h51,hF⟩;refine au ?_;obtain⟨⟨l53,l57⟩,h52,hF⟩:=aa hF;refine kL gn (fun m hm=>EC h52 m hm.aj (hm.q 1) (hm.no 1) (hm.q 2) (hm.no 2)) ?_;rintro⟨a54,c55,n56,a58,c59,n60⟩;refine W4 (k:=0) rfl ?_;rintro rfl;refine W4 (k:=1) rfl ?_;rintro rfl;refine au ?_;cases hF;exact ae (a30,EN,a58,c59) [2,4,1,5];refine wz ?_;cases hF;exact ae (a27,c28) [0,1,3];rintro⟨a49,c50⟩;refine au ?_;refine WW (eZ rfl iZ rfl (eX A3 rfl rfl rfl)) rfl ?_;refine au ?_;cases hF;exact W2 (.cell (k:=0) bC rfl rfl rfl .nil) fun m' hm=>⟨(a49,c50,l48.length),rfl,(ai.an [1,2] rfl rfl) m' hm⟩
def rI{n x1 l2 a3 c4 r}(hF:A4 n x1 l2=some r)(m){H:WI}(hH:∀b,H b->b<m.next)(h5:cz m a3 c4 l2)(h6:∀b,cC a3=some b->¬H b):
 ax al 239 [eL x1 a3 l2 c4] m (fun v m'=>∃x:WH×Nat×Nat,v=.agg #[.bool r.1,.slice x.1 x.2.2 x.2.1]/\Hp m m' [.rd x.1 x.2.1 1 x.2.2 (r.2.map XJ),aP H]):=by
 unfold A4 at hF;refine cw Tryz.func239 (W6 (l0:=[]) (Xb m hH) bM h5 h6) ?_;refine wz ?_;refine wb fun b7=>?_;refine wa iZ fun b8=>?_;refine au ?_;obtain⟨⟨r10,l11⟩,h9,hF⟩:=aa hF;refine wv gn (fun m hm=>gE h9 m hm.aj (hm.q 2) (hm.no 2)) ?_;rintro⟨a12,c13,n14⟩;refine W4 (k:=0) rfl ?_;rintro rfl;refine au ?_;cases hF;exact W2 (.cell (k:=1) bC rfl rfl rfl .nil) fun m' hm=>⟨(a12,c13,l11.length),rfl,(ai.an [0,4] rfl rfl) m' hm⟩
def Kz{n l1 l5 a4 c2 a5 c3 r}(hF:J8 n l1 l5=some r)(m)(h4:cz m a4 c2 l1)(h5:cz m a5 c3 l5):
 ax al 247 [bg a4 l1 c2,bg a5 l5 c3] m (fun v m'=>∃x:WH×Nat,v=.slice x.1 x.2 x.2/\Hp m m' [.sl x.1 1 x.2 (r.map XJ)]):=by
 unfold J8 at hF;refine cw Tryz.func247 (Xa (Xa (W3 m) bM h4) (cA bM) h5) ?_;refine wz ?_;refine WX ?_;obtain⟨r0,h6,hF⟩:=aa hF;refine ct (fun(l2,l3) ((a1,c0,a2,c1):WH×Nat×WH×Nat)=>⟨.normal,(tX a1 l2 c0 a2 l3 c1 []),[cY a1 c0 l2,cY a2 c1 l3]⟩) r0 ?_ ?_;clear hF;revert r0;intro r hF;refine wz ?_;rcases ah hF with⟨h7,hF⟩|⟨h7,hF⟩;refine wz ?_;cases hF;exact ae (a5,c3,a4,c2) [0,1];refine wz ?_;cases hF;exact ae (a4,c2,a5,c3) [1,0];clear h6;obtain⟨l2,l3⟩:=r0;rintro⟨a1,c0,a2,c1⟩;refine au ?_;obtain⟨h8,hF⟩:=aD hF;obtain⟨h9,hF⟩:=aD hF;refine W9 (lG (f:=eN .u64) (z0:=(0:Nat)) mA rfl h8 h9 z53 rfl rfl) gn rfl fun b1=>?_;refine eO ?_;refine W0 ?_;obtain⟨r1,h0,hF⟩:=aa hF;refine ct (fun(l7,n3,v3) (a6:WH)=>⟨(.exit 0),[(0,bg a1 l2 c0),(5,iM a6 n3),(6,bP v3)],[cY a1 c0 l2,vg a6 n3 l7]⟩) r1 ?_ ?_;refine lw h0 (some ⟨b1,0,none⟩) (fun(l4,n2,v1,v2) a3=>⟨.normal,(tX a1 l2 c0 a2 l3 c1 [(5,iM a3 n2),(6,bP v1),(21,bg a1 l2 c0),(22,ep l2),(23,bH v2)]),[cY a1 c0 l2,cY a2 c1 l3,vg a3 n2 l4]⟩) (ai.trans (ai.close (k:=0) rfl) (ai.an [1,2,0] rfl rfl)) ?_;clear hF h0;rintro⟨l4,n2,v1,v2⟩ a3 r hF;unfold oF at hF;refine wz ?_;refine WX ?_;rcases ah hF with⟨h10,hF⟩|⟨h10,hF⟩;refine au ?_;obtain⟨h11,hF⟩:=bU hF;refine Xc (k:=0) rfl (aG h11) ?_;rintro b0 o3 rfl;refine wz ?_;obtain⟨x3,h20,hF⟩:=aa hF;refine au ?_;refine WX ?_;obtain⟨v0,h12,hF⟩:=aa hF;refine ct (fun v0 (_:XC)=>⟨.normal,[(0,lr b0 o3 l2 c0),(1,bg a2 l3 c1),(5,iM a3 n2),(6,bP v1),(7,bH v2),(8,bP x3),(9,bP v0),(21,lr b0 o3 l2 c0),(22,ep l2),(23,bH v2)],[KW b0 o3 l2,Ko b0 o3 c0 l2,cY a2 c1 l3,vg a3 n2 l4]⟩) v0 ?_ ?_;clear hF;revert v0;intro r hF;refine wz ?_;rcases ah hF with⟨h13,hF⟩|⟨h13,hF⟩;refine wz ?_;obtain⟨h14,hF⟩:=bU hF;refine Xc (k:=2) rfl (aG h14) ?_;rintro b4 o4 rfl;refine wz ?_;obtain⟨x6,h21,hF⟩:=aa hF;refine wz ?_;obtain rfl:=Ug hF;exact ae () [1,2,3,4];refine wz ?_;cases hF;exact ae () [0,1,2,3];rintro⟨⟩;refine au ?_;obtain⟨⟨r3,r4⟩,h15,hF⟩:=aa hF;refine wc gn (fun m hm=>xF n x3 v0 v1  _ h15 m) ?_;rintro⟨⟩;refine wz ?_;obtain⟨h16,hF⟩:=bU hF;refine Xg (k:=3) rfl (aG h16) ?_;rintro b2 t0 rfl h22;refine wz ?_;obtain⟨x4,h17,hF⟩:=aa hF;refine Xi (eG (k:=3) (x1:=x4) (x2:=r3) lA rfl rfl rfl h17 rfl) ?_;refine au ?_;cases hF;exact aT (some ⟨b2,0,none⟩) (ai.trans (ai.close (k:=3) rfl) (ai.an [1,2,3] rfl rfl));refine wz ?_;cases hF;exact ae a3 [0,2];clear h0;obtain⟨l7,n3,v3⟩:=r1;rintro a6;refine au ?_;obtain⟨h18,hF⟩:=bU hF;refine Xg (k:=1) rfl (aG h18) ?_;rintro b3 t1 rfl h23;refine wz ?_;obtain⟨x5,h19,hF⟩:=aa hF;refine Xi (eG (k:=1) (x1:=x5) (x2:=v3) lA rfl rfl rfl h19 rfl) ?_;refine eO ?_;cases hF;exact W2 (.tmp rfl .nil) fun m' hm=>⟨((some ⟨b3,0,none⟩),n3),rfl,(ai.trans (ai.close (k:=1) rfl) (ai.an [1] rfl rfl)) m' hm⟩
def rZ{n x1 l2 x7 l8 a3 c4 a9 c10 r}(hF:xW n x1 l2 x7 l8=some r)(m){H:WI}(hH:∀b,H b->b<m.next)(h5:cz m a3 c4 l2)(h6:∀b,cC a3=some b->¬H b)(h11:cz m a9 c10 l8)(h12:∀b,cC a9=some b->¬H b):
 ax al 194 [eL x1 a3 l2 c4,eL x7 a9 l8 c10] m (fun v m'=>∃x:WH×Nat×Nat,v=.agg #[.bool r.1,.slice x.1 x.2.2 x.2.1]/\Hp m m' [.rd x.1 x.2.1 1 x.2.2 (r.2.map XJ),aP H]):=by
 unfold xW at hF;refine cw Tryz.func194 (W6 (l0:=[cY a3 c4 l2]) (W6 (l0:=[]) (Xb m hH) bM h5 h6) (cA bM) h11 h12) ?_;refine wz ?_;refine wb fun b13=>?_;refine wb fun b14=>?_;refine wa iZ fun b15=>?_;refine au ?_;refine WW (aN rfl rfl (MW u4)) rfl ?_;refine wz ?_;rcases ah hF with⟨h16,hF⟩|⟨h16,hF⟩;refine Wk.fW rfl h16<|WX<|Xd (prs:=[(1,6)]) (by kernel_rfl)<|WY (bJ (r:=ptr b13 0) rfl (ju _ _)) rfl<|WY (aV (k:=2) Au rfl rfl rfl) rfl<|WY (bJ (r:=ptr b13 1) rfl (kR _ _)) rfl<|WY (aV (k:=2) nI rfl rfl rfl) rfl<|WY (bJ (r:=ptr b14 1) rfl (kR _ _)) rfl<|WY (aV (k:=1) nI rfl rfl rfl) rfl ?_
 obtain⟨l18,h17,hF⟩:=aa hF;refine nc gn (fun m hm=>Kz h17 m (hm.q 4) (hm.q 3)) ?_;rintro⟨a19,n20⟩;refine Wn.len (k:=0) (xs:=l18) rfl ?_;rintro rfl;obtain⟨⟨r22,l23⟩,h21,hF⟩:=aa hF;refine Wn.bT (ai.freeze (k:=0) rfl)<|nv gn (fun m hm=>gE h21 m hm.aj (hm.q 0) (hm.no 0)) ?_;rintro⟨a24,c25,n26⟩;refine W1 (k:=0) rfl ?_;rintro rfl;refine Xf (da (k:=2) bC rfl rfl rfl rfl rfl)<|W8 (fun m hm=>eM.all rfl) ?_;refine au ?_;cases hF;exact W2 (.cell (k:=2) bC rfl rfl rfl .nil) fun m' hm=>⟨(a24,c25,l23.length),rfl,(ai.an [0,7] rfl rfl) m' hm⟩;refine wz ?_;refine WX ?_;obtain⟨r42,h41,hF⟩:=aa hF;refine ct (fun(v30,l31,v34,l35) ((a32,c33,a36,c37):WH×Nat×WH×Nat)=>⟨.normal,[(2,ptr b13 0),(3,ptr b14 0),(4,ptr b15 0)],[rA b13 v30 a32 l31 c33,cY a32 c33 l31,rA b14 v34 a36 l35 c37,cY a36 c37 l35,uu b15,aP H]⟩) r42 ?_ ?_;clear hF;revert r42;intro r hF;refine wz ?_;obtain⟨r39,h38,hF⟩:=aa hF;refine wc gn (fun m hm=>D5 h38 m (hm.q 4) (hm.q 3)) ?_;rintro⟨⟩;refine wz ?_;rcases ah hF with⟨h40,hF⟩|⟨h40,hF⟩;refine wz ?_;cases hF;exact ae (a9,c10,a3,c4) [2,3,1,4,0,5];refine wz ?_;cases hF;exact ae (a3,c4,a9,c10) [2,4,1,3,0,5];clear h41;obtain⟨v30,l31,v34,l35⟩:=r42;rintro⟨a32,c33,a36,c37⟩;refine W5<|WX<|Xd (prs:=[(1,6)]) (by kernel_rfl)<|WY (bJ (r:=ptr b13 0) rfl (ju _ _)) rfl<|WY (aV (k:=0) Au rfl rfl rfl) rfl<|WY (bJ (r:=ptr b13 1) rfl (kR _ _)) rfl<|WY (aV (k:=0) nI rfl rfl rfl) rfl<|WY (bJ (r:=ptr b14 1) rfl (kR _ _)) rfl<|WY (aV (k:=2) nI rfl rfl rfl) rfl ?_
 obtain⟨l44,h43,hF⟩:=aa hF;refine nc gn (fun m hm=>DA h43 m (hm.q 1) (hm.q 3)) ?_;rintro⟨a45,n46⟩;refine Wn.len (k:=0) (xs:=l44) rfl ?_;rintro rfl;obtain⟨⟨r48,l49⟩,h47,hF⟩:=aa hF;refine Wn.bT (ai.freeze (k:=0) rfl)<|nv gn (fun m hm=>gE h47 m hm.aj (hm.q 0) (hm.no 0)) ?_;rintro⟨a50,c51,n52⟩;refine W1 (k:=0) rfl ?_;rintro rfl;refine Xf (da (k:=6) bC rfl rfl rfl rfl rfl)<|W8 (fun m hm=>eM.all rfl) ?_;refine au ?_;cases hF;exact W2 (.cell (k:=6) bC rfl rfl rfl .nil) fun m' hm=>⟨(a50,c51,l49.length),rfl,(ai.an [0,7] rfl rfl) m' hm⟩
def Lm{n x1 l2 x7 l8 a3 c4 a9 c10 r}(hF:Jh n x1 l2 x7 l8=some r)(m){H:WI}(hH:∀b,H b->b<m.next)(h5:cz m a3 c4 l2)(h6:∀b,cC a3=some b->¬H b)(h11:cz m a9 c10 l8)(h12:∀b,cC a9=some b->¬H b):
 ax al 240 [eL x1 a3 l2 c4,eL x7 a9 l8 c10] m (fun v m'=>∃x:WH×Nat×Nat,v=.agg #[.bool r.1,.slice x.1 x.2.2 x.2.1]/\Hp m m' [.rd x.1 x.2.1 1 x.2.2 (r.2.map XJ),aP H]):=by
 unfold Jh at hF;refine cw Tryz.func240 (W6 (l0:=[cY a3 c4 l2]) (W6 (l0:=[]) (Xb m hH) bM h5 h6) (cA bM) h11 h12) ?_;refine wz ?_;refine wb fun b13=>?_;refine wb fun b14=>?_;refine wa iZ fun b15=>?_;refine wz ?_;refine WX<|Xd (prs:=[(0,2)]) (by kernel_rfl)<|WY (aV (k:=2) bC rfl rfl rfl) rfl<|WY (aV (k:=1) bC rfl rfl rfl) rfl ?_
 obtain⟨⟨r17,l18⟩,h16,hF⟩:=aa hF;refine nv gn (fun m hm=>rI h16 m hm.aj (hm.q 3) (hm.no 3)) ?_;rintro⟨a19,c20,n21⟩;refine W1 (k:=0) rfl ?_;rintro rfl;obtain⟨⟨r23,l24⟩,h22,hF⟩:=aa hF;refine nv gn (fun m hm=>rZ h22 m hm.aj (hm.q 5) (hm.no 5) (hm.q 0) (hm.no 0)) ?_;rintro⟨a25,c26,n27⟩;refine W1 (k:=0) rfl ?_;rintro rfl;refine Xf (da (k:=2) bC rfl rfl rfl rfl rfl)<|W8 (fun m hm=>eM.all rfl) ?_;refine au ?_;cases hF;exact W2 (.cell (k:=2) bC rfl rfl rfl .nil) fun m' hm=>⟨(a25,c26,l24.length),rfl,(ai.an [0,7] rfl rfl) m' hm⟩
def D9{n x1 l2 x6 l7 a3 c4 a8 c9 r}(hF:B5 n x1 l2 x6 l7=some r)(m)(h5:cz m a3 c4 l2)(h10:cz m a8 c9 l7):
 ax al 184 [eL x1 a3 l2 c4,eL x6 a8 l7 c9] m (Xp m (.int .i64 r)):=by
 unfold B5 at hF;refine cw Tryz.func184 (Xa (Xa (W3 m) bM h5) (cA bM) h10) ?_;refine wz ?_;refine wb fun b11=>?_;refine wb fun b12=>?_;refine au ?_;obtain⟨⟨r14,l15⟩,h13,hF⟩:=aa hF;refine wv gn (fun m hm=>Lm h13 m hm.aj (hm.q 3) (hm.no 3) (hm.q 2) (hm.no 2)) ?_;rintro⟨a16,c17,n18⟩;refine W4 (k:=0) rfl ?_;rintro rfl;obtain⟨r20,h19,hF⟩:=aa hF;refine wc gn (fun m hm=>yW h19 m (hm.q 0)) ?_;rintro⟨⟩;refine au ?_;obtain rfl:=Ug hF;exact ar () []
end Go.Proofs.YtpkadoocdgdcfaaGreatDoor
