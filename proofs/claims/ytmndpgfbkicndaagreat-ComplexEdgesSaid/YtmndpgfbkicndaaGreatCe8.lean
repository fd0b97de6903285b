/- A part of the proof. -/
import Derived.Test.YtmndpgfbkicndaaGreatCe7
set_option linter.all false
namespace Go.Proofs.YtmndpgfbkicndaaGreat
open Go Go.Ab Go.Ab.W Go.Ab.B Jd
def bW(P:WB Ed->Ed->Bool):WB Ed->WB Ed->WA Int
 | _,[]=>none
 | d,e::es=>if P d e then some e.2.2.1 else bW P (d++[e]) es
def HG:WA Int->Int⊕WC
 | some v=>.inl v
 | none=>.inr ()
def kg{P:WB Ed->Ed->Bool}:∀(a b d:WB Ed),bW P d (a++b)=match bW P d a with|some v=>some v|none=>bW P (d++a) b
 | [],b,d=>by simp[bW]
 | e::a,b,d=>by
  rw[Vd,bW,bW]
  by_cases h:P d e=true
  rw[SU h,SU h]
  rw[SS h,SS h,kg a b (d++[e]),TU]; rfl
def lJ{P:WB Ed->Ed->Bool}{E:WB Ed}{f:Nat->WA (Int⊕WC)}(hf:∀i e,E[i]? = some e->f i=if P (E.take i) e then some (.inl e.2.2.1) else none) :
  ∀(k i:Nat),i+k=E.length->bI f (.inr ()) k i=HG (bW P (E.take i) (E.drop i))
 | 0,i,h=>by
  rw[List.drop_of_length_le (by omega)]; rfl
 | k+1,i,h=>by
  have hi:i<E.length:=by omega
  have hx:=SR hi;rw[US hi,bW];unfold bI;rw[hf i _ hx]
  by_cases g:P (E.take i) E[i]=true
  rw[SU g,SU g]; rfl
  rw[SS g,SS g];have:=lJ hf k (i+1) (by omega)
  rw[this,Ux,hx]; rfl
def Ag{α:Type}{r:Int⊕WC}{E:WB α}{i:Nat}(hi:i<=E.length)(q:α->Bool)(f:Nat->WA (Int⊕WC))(hf:∀j x,j<i->E[j]? = some x->f j=if q x then some r else none) :
  bI f (.inr ()) i 0=if(E.take i).any q then r else .inr ():=by
 rcases cK (f:=f) (e:=.inr ()) i 0 with⟨h1,h2⟩|⟨j,_,h2,h3⟩
 rw[h2,SS];intro h;obtain⟨x,hx,hq⟩:=UU.1 h;obtain⟨j,hj,e⟩:=TL.1 hx;rw[Th] at hj;rw[List.getElem_take] at e;have:=h1 j (by omega) (by omega)
 rw[hf j x (by omega) (by rw[SR (by omega),e]),SU hq] at this
 cases this
 have hj:j<E.length:=by omega
 rw[hf j _ (by omega) (SR hj)] at h3
 by_cases g:q E[j]=true
 rw[SU g] at h3;rw[SU (UU.2 ⟨E[j],TL.2 ⟨j,by rw[Th]; omega,by rw[List.getElem_take]⟩,g⟩)]
 exact(SX h3).symm
 rw[SS g] at h3; cases h3
def uP(d:WB Ed)(e:Ed):Bool:=d.any fun x=>decide (e.1=x.1)&&decide (e.2.1=x.2.1)
noncomputable def uo (pts:WB I2) (d:WB Ed) (e:Ed):Bool:=d.any fun x=>jb pts e x
section
variable{pts:WB I2}{F:WB Fc}(n:Nat)
def Ju{E:WB Ed}(hE:E.length<50000)(hn:99999<n):bh (yE n E) n 0=some (HG (bW uP [] E)):=by
 have:=lJ (P:=uP) (E:=E) (f:=fun i=>match E[i]? with|some e=>if uP (E.take i) e then some (.inl e.2.2.1) else none|none=>none) (fun i e he=>by simp only[he]) E.length 0 (by omega)
 rw[List.take_zero,Uw] at this;rw[<-this];refine bp (len:=E.length) (fun i hi=>?_) ?_ E.length 0 n (by omega) (by omega)
 ·have hx:=SR hi;generalize E[i]=e at hx;have hin:bh (zR n (i:Int) E) n 0=some (if uP (E.take i) e then .inl e.2.2.1 else .inr ()):=by
   unfold uP;rw[<-Ag (E:=E) (r:=.inl e.2.2.1) (by omega) _ (fun j=>match E[j]? with|some x=>if(decide (e.1=x.1)&&decide (e.2.1=x.2.1))=true then some (.inl e.2.2.1) else none|none=>none) (fun j x _ hj=>by simp only[hj])]
   refine bp (len:=i) (fun j hj=>?_) ?_ i 0 n (by omega) (by omega)
   ·have hy:=SR (show j<E.length by omega)
    generalize E[j]=x at hy;unfold zR
    try dsimp only
    rw[V7]
    simp only[al hi,al (show j<E.length by omega),aL,aR hx,aR hy,ai,hy,da,ak (show j<4611686018427387904 by omega)]
    cases(decide (e.1=x.1)&&decide (e.2.1=x.2.1))<;>rfl
   ·unfold zR
    try dsimp only
    rw[V8]
  unfold yE
  try dsimp only
  rw[V7,hin,ai,V9,hx]
  try dsimp only
  cases uP (E.take i) e<;>rfl
 ·unfold yE
  try dsimp only
  rw[V8]
def Gr(hb:dI pts){E:WB Ed}(hS:∀e∈E,yh pts e)(hE:E.length<50000)(hn:99999<n):bh (yR n E pts F) n 0=some (HG (bW (uo pts) [] E)):=by
 have:=lJ (P:=uo pts) (E:=E) (f:=fun i=>match E[i]? with|some e=>if uo pts (E.take i) e then some (.inl e.2.2.1) else none|none=>none) (fun i e he=>by simp only[he]) E.length 0 (by omega)
 rw[List.take_zero,Uw] at this;rw[<-this];refine bp (len:=E.length) (fun i hi=>?_) ?_ E.length 0 n (by omega) (by omega)
 ·have hx:=SR hi;generalize E[i]=e at hx;have hin:bh (zA n (i:Int) E pts F) n 0=some (if uo pts (E.take i) e then .inl e.2.2.1 else .inr ()):=by
   unfold uo;rw[<-Ag (E:=E) (r:=.inl e.2.2.1) (by omega) _ (fun j=>match E[j]? with|some x=>if jb pts e x=true then some (.inl e.2.2.1) else none|none=>none) (fun j x _ hj=>by simp only[hj])]
   refine bp (len:=i) (fun j hj=>?_) ?_ i 0 n (by omega) (by omega)
   ·have hy:=SR (show j<E.length by omega)
    generalize E[j]=x at hy;unfold zA
    try dsimp only
    rw[V7]
    simp only[al hi,al (show j<E.length by omega),aL,aR hx,aR hy,ai,hy,ak (show j<4611686018427387904 by omega)]
    rw[KF n hb (hS e (Td hx)) (hS x (Td hy)),ai];cases jb pts e x<;>rfl
   ·unfold zA
    try dsimp only
    rw[V8]
  unfold yR
  try dsimp only
  rw[V7,hin,ai,V9,hx]
  try dsimp only
  cases uo pts (E.take i) e<;>rfl
 ·unfold yR
  try dsimp only
  rw[V8]
end
def wJ{P:WB Ed->Ed->Bool}{g:Nat->WB Ed}{d:WB Ed}{v:Int}{i:Nat}(h:bW P d (acc g i)=some v):∀k,bW P d (acc g (i+k))=some v
 | 0=>h
 | k+1=>by
  rw[<-Nat.add_assoc,acc,kg,wJ h k]
def oZ{σ τ:Type}{B:(Int×σ)->WA ((Int×σ) ⊕(τ⊕σ))}{len:Nat}{P:WB Ed->Ed->Bool}{g:Nat->WB Ed}{d:WB Ed}(R:WB Ed->σ->Prop)(Q:τ->Int->Prop)
  (hB:∀i s,i<len->R (d++acc g i) s->(∃v t,bW P (d++acc g i) (g i)=some v/\B ((i:Int),s)=some (.inr (.inl t))/\Q t v) \/
   (bW P (d++acc g i) (g i)=none/\∃s',B ((i:Int),s)=some (.inl (((i+1:Nat):Int),s'))/\R (d++acc g i++g i) s'))
  (hE:∀s,R (d++acc g len) s->B ((len:Int),s)=some (.inr (.inr s))) :
  ∀(k i n:Nat) (s:σ),i+k=len->k<n->bW P d (acc g i)=none->R (d++acc g i) s ->
   (∃v t,bW P d (acc g len)=some v/\bh B n ((i:Int),s)=some (.inl t)/\Q t v)\/(bW P d (acc g len)=none/\∃s',bh B n ((i:Int),s)=some (.inr s')/\R (d++acc g len) s')
 | 0,i,n+1,s,h,_,h0,hr=>by
  rw[Ui] at h; subst h;exact .inr ⟨h0,s,fg (hE s hr),hr⟩
 | k+1,i,n+1,s,h,hn,h0,hr=>by
  rcases hB i s (by omega) hr with⟨v,t,h1,h2,h3⟩|⟨h1,s',h2,h3⟩
  refine .inl ⟨v,t,?_,fg h2,h3⟩;have:bW P d (acc g (i+1))=some v:=by rw[acc,kg,h0]; exact h1
  have:=wJ this k;rw[show i+1+k=len by omega] at this
  exact this
  rw[eQ h2];exact oZ R Q hB hE k (i+1) n s' (by omega) (by omega) (by rw[acc,kg,h0]; exact h1) (by rw[acc,<-TU]; exact h3)
def pB{l:WB Int}{i:Nat}(hi:i<l.length):l[((i:Nat):Int).toNat]? = some (l.getD i 0)/\l[(((i+1)%l.length:Nat):Int).toNat]? = some (l.getD ((i+1)%l.length) 0):=by
 have hi2:(i+1)%l.length<l.length:=TY _ (by omega)
 exact⟨by rw[Ti,SZ,SR hi]; rfl,by rw[Ti,SZ,SR hi2]; rfl⟩
def nW(d:WB Ed)(m:WB ((Int×Int)×Bool)):Prop:=∀p:Int×Int,(cR m p).getD false=d.any fun x=>decide (p.1=x.1)&&decide (p.2=x.2.1)
def DQ{d:WB Ed}{m:WB ((Int×Int)×Bool)}(h:nW d m)(e:Ed):nW (d++[e]) (gS m (e.1,e.2.1) true):=by
 intro p;rw[gO,List.any_append]
 by_cases hp:p=(e.1,e.2.1)
 rw[SU hp,hp]; simp
 rw[SS hp,h p];have:(decide (p.1=e.1)&&decide (p.2=e.2.1))=false:=by
  rw[<-Ty,S7];exact fun c=>hp (TZ c.1 c.2)
 simp only[List.any_cons,List.any_nil,Bool.or_false,this]
section
variable{pts:WB I2}{F:WB Fc}(n:Nat)
def Gs{l:WB Int}{f r:Nat}{d:WB Ed}{m:WB ((Int×Int)×Bool)}(hm:nW d m)(hl:l.length<=40)(hn:1000<n) :
  (∃v t,bW uP d (rE l f r)=some v/\bh (qW n l) n (0,m)=some (.inl t)/\v=(f:Int))\/(bW uP d (rE l f r)=none/\∃s',bh (qW n l) n (0,m)=some (.inr s')/\nW (d++rE l f r) s'):=by
 refine oZ (B:=qW n l) (len:=l.length) (P:=uP) (g:=fun i=>[gr l f r i]) (d:=d) nW (fun _ v=>v=(f:Int)) (fun i s hi hs=>?_) (fun s hs=>?_) l.length 0 n m (by omega) (by omega) rfl (by rw[acc,TI]; exact hm)
 ·obtain⟨e1,e2⟩:=pB hi;have hi2:(i+1)%l.length<l.length:=TY _ (by omega)
  have hk:=hs (l.getD i 0,l.getD ((i+1)%l.length) 0);have hB:qW n l ((i:Int),s)=if uP (d++acc (fun i=>[gr l f r i]) i) (gr l f r i) then some (.inr (.inl s)) else some (.inl (((i+1:Nat):Int),gS s (l.getD i 0,l.getD ((i+1)%l.length) 0) true)):=by
   unfold qW
   try dsimp only
   rw[V7]
   simp only[al hi,aL,e1,ai,ak (show i<4611686018427387904 by omega)]
   rw[eT (by omega)]
   simp only[iB,al hi2,aL,e2,ai];rw[hk]
   show ob (br (uP (d++acc (fun i=>[gr l f r i]) i) (gr l f r i)) _ _) _=_
   cases uP (d++acc (fun i=>[gr l f r i]) i) (gr l f r i)<;>rfl
  by_cases c:uP (d++acc (fun i=>[gr l f r i]) i) (gr l f r i)=true
  rw[SU c] at hB;exact .inl ⟨(f:Int),s,by rw[bW,SU c]; rfl,hB,rfl⟩
  rw[SS c] at hB;exact .inr ⟨by rw[bW,SS c,bW],_,hB,DQ hs (gr l f r i)⟩
 ·unfold qW
  try dsimp only
  rw[V8]
end
section
variable{pts:WB I2}{F:WB Fc}(n:Nat)
def Is{rs:Vo}{f:Nat}{d:WB Ed}{m:WB ((Int×Int)×Bool)}(hm:nW d m)(h9:rs.length<=9)(h40:∀r,(rs.getD r []).length<=40)(hn:1000<n) :
  (∃v t,bW uP d (fE rs f)=some v/\bh (qH n rs) n (0,m)=some (.inl t)/\v=(f:Int))\/(bW uP d (fE rs f)=none/\∃s',bh (qH n rs) n (0,m)=some (.inr s')/\nW (d++fE rs f) s'):=by
 refine oZ (B:=qH n rs) (len:=rs.length) (P:=uP) (g:=fun r=>rE (rs.getD r []) f r) (d:=d) nW (fun _ v=>v=(f:Int)) (fun i s hi hs=>?_) (fun s hs=>?_) rs.length 0 n m (by omega) (by omega) rfl (by rw[acc,TI]; exact hm)
 ·have hx:rs[i]? = some (rs.getD i []):=by rw[SZ,SR hi]; rfl
  rcases Gs n (l:=rs.getD i []) (f:=f) (r:=i) hs (h40 i) hn with⟨v,t,h1,h2,h3⟩|⟨h1,s',h2,h3⟩
  ·refine .inl ⟨v,t,h1,?_,h3⟩;unfold qH
   try dsimp only
   rw[V7,al hi,aL,aR hx,ai,h2,ai]
  ·refine .inr ⟨h1,s',?_,h3⟩;unfold qH
   try dsimp only
   rw[V7,al hi,aL,aR hx,ai,h2,ai,V9]
 ·unfold qH
  try dsimp only
  rw[V8]
def eV(hv:Fcs pts F)(i:Nat):(aw F i).length<=9/\∀r,((aw F i).getD r []).length<=40:=by
 unfold aw
 by_cases hi:i<F.length
 obtain⟨h8,h9⟩:=jR (hv.ok _ (Tx hi));have e:F.getD i ([],[])=F[i]:=by rw[SZ,SR hi]; rfl
 rw[e];refine⟨by simp; omega,fun r=>?_⟩
 by_cases hr:r<(F[i].1::F[i].2).length
 have:=(gJ rfl (h9 _ (Tx hr))).2.2;rw[SZ,SR hr]; exact this
 rw[SZ,TV (by omega)]; simp
 rw[SZ,TV (by omega)]
 refine⟨by simp,fun r=>?_⟩
 cases r<;>simp
def fO{i:Nat}(hi:i<F.length):F[i]? = some (F.getD i ([],[])):=by rw[SZ,SR hi]; rfl
def kK(hv:Fcs pts F){i:Nat}(hn:1000<n):Bv n (F.getD i ([],[])).1 (F.getD i ([],[])).2=some (aw F i):=by
 have h3:=(eV hv i).1;unfold aw at h3;rw[TJ] at h3;exact xA n _ _ (by omega) hn
def Ij(hv:Fcs pts F)(hn:1000<n) :
  (∃v t,bW uP [] (sE F)=some v/\bh (qQ n F) n (0,[])=some (.inl t)/\v=t.1)\/(bW uP [] (sE F)=none/\∃s',bh (qQ n F) n (0,[])=some (.inr s')/\nW ([]++sE F) s'):=by
 have hf:=hv.flen;refine oZ (B:=qQ n F) (len:=F.length) (P:=uP) (g:=fun f=>fE (aw F f) f) (d:=[]) nW (fun t v=>v=t.1) (fun i s hi hs=>?_) (fun s hs=>?_) F.length 0 n [] (by omega) (by omega) rfl (by rw[acc,TI]; intro p; simp[cR,cT])
 ·obtain⟨h9,h40⟩:=eV hv i;rcases Is n (rs:=aw F i) (f:=i) hs h9 h40 hn with⟨v,t,h1,h2,h3⟩|⟨h1,s',h2,h3⟩
  ·refine .inl ⟨v,((i:Int),t),h1,?_,h3⟩;unfold qQ
   try dsimp only
   rw[V7,al hi,aL,aR (fO hi),ai]
   try dsimp only
   rw[kK n hv hn,ai,h2,ai]
  ·refine .inr ⟨h1,s',?_,h3⟩;unfold qQ
   try dsimp only
   rw[V7,al hi,aL,aR (fO hi),ai]
   try dsimp only
   rw[kK n hv hn,ai,h2,ai,V9]
 ·unfold qQ
  try dsimp only
  rw[V8]
end
section
variable{pts:WB I2}{F:WB Fc}(n:Nat)
def G7(hb:dI pts){e:Ed}(he:yh pts e){d:WB Ed}(hS:∀x∈d,yh pts x)(hd:d.length<=50000)(hn:99999<n) :
  ∃w,bh (sW n d pts F e.1 e.2.1 e.2.2.1 e.2.2.2) n 0=some w/\(if uo pts d e then ∃j:Nat,w=.inl (j:Int) else w=.inr ()):=by
 have h1:bh (sW n d pts F e.1 e.2.1 e.2.2.1 e.2.2.2) n 0=some (bI (fun j=>match d[j]? with|some x=>if jb pts e x=true then some (.inl (j:Int)) else none|none=>none) (.inr ()) d.length 0):=by
  refine bp (len:=d.length) (fun j hj=>?_) ?_ d.length 0 n (by omega) (by omega)
  ·have hy:=SR hj;generalize d[j]=x at hy;unfold sW
   try dsimp only
   rw[V7]
   simp only[al hj,aL,aR hy,ai,hy,ak (show j<4611686018427387904 by omega)]
   rw[KH n hb he (hS x (Td hy)) (by omega),ai,ai]
   cases jb pts e x<;>rfl
  ·unfold sW
   try dsimp only
   rw[V8]
 refine⟨_,h1,?_⟩;rcases cK (f:=fun j=>match d[j]? with|some x=>if jb pts e x=true then some (.inl (j:Int)) else none|none=>none) (e:=(.inr ():Int⊕WC)) d.length 0 with⟨g1,g2⟩|⟨j,_,g2,g3⟩
 ·rw[g2,SS];intro h;obtain⟨x,hx,hq⟩:=UU.1 h;obtain⟨j,hj,ej⟩:=TL.1 hx;have:=g1 j (by omega) (by omega)
  try dsimp only at this
  rw[SR hj,ej] at this
  try dsimp only at this
  rw[SU hq] at this;cases this
 ·try dsimp only at g3
  rw[SR (show j<d.length by omega)] at g3
  try dsimp only at g3
  by_cases g:jb pts e d[j]=true
  rw[SU g] at g3;have hc:uo pts d e=true:=UU.2 ⟨_,Tx _,g⟩;rw[SU hc];exact⟨j,(SX g3).symm⟩
  rw[SS g] at g3; cases g3
def H3(hb:dI pts){l:WB Int}{f r:Nat}{d:WB Ed}(hS:∀x∈d,yh pts x)(hS2:∀i,i<l.length->yh pts (gr l f r i))(hd:d.length<=45000)(hl:l.length<=40)(hn:99999<n) :
  (∃v t,bW (uo pts) d (rE l f r)=some v/\bh (qO n l pts F (f:Int) (r:Int)) n (0,d)=some (.inl t)/\v=(f:Int))\/(bW (uo pts) d (rE l f r)=none/\∃s',bh (qO n l pts F (f:Int) (r:Int)) n (0,d)=some (.inr s')/\s'=d++rE l f r):=by
 refine oZ (B:=qO n l pts F (f:Int) (r:Int)) (len:=l.length) (P:=uo pts) (g:=fun i=>[gr l f r i]) (d:=d) (fun d s=>s=d) (fun _ v=>v=(f:Int)) (fun i s hi hs=>?_) (fun s hs=>?_) l.length 0 n d (by omega) (by omega) rfl (by rw[acc,TI])
 ·subst hs;obtain⟨e1,e2⟩:=pB hi;have hi2:(i+1)%l.length<l.length:=TY _ (by omega)
  have ha:=dD (g:=fun i=>[gr l f r i]) (b:=1) (k:=i) fun i _=>by simp
  have hlen:(d++acc (fun i=>[gr l f r i]) i).length<=50000:=by rw[Te]; omega
  have hS3:∀x∈d++acc (fun i=>[gr l f r i]) i,yh pts x:=fun x hx=>by
   rcases Tk.1 hx with h|h
   exact hS x h
   ·have:∀k,k<=i->x∈acc (fun i=>[gr l f r i]) k->yh pts x:=fun k=>by
     induction k with
     | zero=>intro _ h; cases h
     | succ k ih =>
      intro hk h;rw[acc,Tk,S6] at h;rcases h with h|h
      exact ih (by omega) h
      rw[h]; exact hS2 k (by omega)
    exact this i (S0 _) h
  generalize hD:d++acc (fun i=>[gr l f r i]) i=D at *;obtain⟨w,h1,h2⟩:=G7 (F:=F) n hb (hS2 i hi) hS3 hlen hn;have h1':bh (sW n D pts F (l.getD i 0) (l.getD ((i+1)%l.length) 0) (f:Int) (r:Int)) n 0=some w:=h1;have hB:qO n l pts F (f:Int) (r:Int) ((i:Int),D)=if uo pts D (gr l f r i) then some (.inr (.inl D)) else some (.inl (((i+1:Nat):Int),D++[gr l f r i])):=by
   unfold qO
   try dsimp only
   rw[V7]
   simp only[al hi,aL,e1,ai,ak (show i<4611686018427387904 by omega)]
   rw[eT (by omega)]
   simp only[iB,al hi2,aL,e2,ai];rw[h1',ai]
   by_cases c:uo pts D (gr l f r i)=true
   rw[SU c] at h2 ⊢;obtain⟨j,rfl⟩:=h2;simp only[ai,au (show(0:Int)<=(j:Int) by omega)]
   rw[SS c] at h2 ⊢;subst h2;simp only[ai,av (show ¬(0:Int)<=-1 by decide)]
   rw[bl (by rw[Te]; simp; omega),aL]
   rfl
  by_cases c:uo pts D (gr l f r i)=true
  rw[SU c] at hB;exact .inl ⟨(f:Int),D,by rw[bW,SU c]; rfl,hB,rfl⟩
  rw[SS c] at hB;exact .inr ⟨by rw[bW,SS c,bW],_,hB,rfl⟩
 ·unfold qO
  try dsimp only
  rw[V8]
end
def fQ{α:Type}{g:Nat->WB α}{x:α}:∀{k:Nat},x∈acc g k->∃i,i<k/\x∈g i
 | 0,h=>by cases h
 | k+1,h=>by
  rw[acc,Tk] at h;rcases h with h|h
  obtain⟨i,hi,hx⟩:=fQ h;exact⟨i,by omega,hx⟩
  exact⟨k,by omega,h⟩
section
variable{pts:WB I2}{F:WB Fc}(n:Nat)
def xy(hv:Fcs pts F){f r:Nat}(hf:f<F.length)(hr:r<(aw F f).length):oz pts.length ((aw F f).getD r [])=true/\pJ (fi pts ((aw F f).getD r []) 1):=by
 have e:F.getD f ([],[])=F[f]:=by rw[SZ,SR hf]; rfl
 unfold aw at hr ⊢;rw[e] at hr ⊢;have e2:(F[f].1::F[f].2).getD r []=(F[f].1::F[f].2)[r]:=by rw[SZ,SR hr]; rfl
 rw[e2];exact⟨(jR (hv.ok _ (Tx hf))).2 _ (Tx hr),of_decide_eq_true (Tc.1 (hv.va _ (Tx hf)) _ (Tx hr))⟩
def F6{l:WB Int}{i:Nat}(hi:i<l.length):nx (fi pts l 1) i=iV pts (l.getD i 0):=by
 unfold nx fi;rw[To,UD hi,SZ,TT,SZ,SR hi];simp
def tq(hv:Fcs pts F){f r i:Nat}(hf:f<F.length)(hr:r<(aw F f).length)(hi:i<((aw F f).getD r []).length):yh pts (gr ((aw F f).getD r []) f r i):=by
 obtain⟨h1,h2⟩:=xy hv hf hr;generalize(aw F f).getD r []=l at *;obtain⟨hx,h3,h4⟩:=gJ rfl h1;have hi2:(i+1)%l.length<l.length:=TY _ (by omega)
 have gm:∀k,k<l.length->l.getD k 0∈l:=fun k hk=>by
  rw[SZ,SR hk]; exact Tx _
 refine⟨hx _ (gm i hi),hx _ (gm _ hi2),?_⟩;have hs:=(yu.1 h2).vr.still i;rw[F6 hi] at hs;have:nx (fi pts l 1) (i+1)=iV pts (l.getD ((i+1)%l.length) 0):=by
  rw[<-F6 hi2];exact oV _ (by rw[eU,Nat.mod_mod])
 rw[this] at hs;exact hs
def Fb(hv:Fcs pts F){f:Nat}(hf:f<F.length){k:Nat}(hk:k<=(aw F f).length):∀x∈acc (fun r=>rE ((aw F f).getD r []) f r) k,yh pts x:=fun x hx=>by
 obtain⟨r,hr,h⟩:=fQ hx;obtain⟨i,hi,h⟩:=fQ h;rw[S6] at h;rw[h];exact tq hv hf (by omega) hi
def xY(hv:Fcs pts F){k:Nat}(hk:k<=F.length):∀x∈acc (fun f=>fE (aw F f) f) k,yh pts x:=fun x hx=>by
 obtain⟨f,hf,h⟩:=fQ hx;exact Fb hv (by omega) (S0 _) x h
def G5(hv:Fcs pts F){f:Nat}(hf:f<F.length){d:WB Ed}(hS:∀x∈d,yh pts x)(hd:d.length<=40000)(hn:99999<n) :
  (∃v t,bW (uo pts) d (fE (aw F f) f)=some v/\bh (qX n (aw F f) pts F (f:Int)) n (0,d)=some (.inl t)/\v=(f:Int))\/(bW (uo pts) d (fE (aw F f) f)=none/\∃s',bh (qX n (aw F f) pts F (f:Int)) n (0,d)=some (.inr s')/\s'=d++fE (aw F f) f):=by
 obtain⟨h9,h40⟩:=eV hv f;refine oZ (B:=qX n (aw F f) pts F (f:Int)) (len:=(aw F f).length) (P:=uo pts) (g:=fun r=>rE ((aw F f).getD r []) f r) (d:=d) (fun d s=>s=d) (fun _ v=>v=(f:Int)) (fun i s hi hs=>?_) (fun s hs=>?_) (aw F f).length 0 n d (by omega) (by omega) rfl (by rw[acc,TI])
 ·subst hs;have hx:(aw F f)[i]? = some ((aw F f).getD i []):=by rw[SZ,SR hi]; rfl
  have ha:=dD (g:=fun r=>rE ((aw F f).getD r []) f r) (b:=40) (k:=i) fun r _=>Tv tj (h40 r);rcases H3 (F:=F) n hv.near (l:=(aw F f).getD i []) (f:=f) (r:=i) (d:=d++acc (fun r=>rE ((aw F f).getD r []) f r) i) (fun x hx=>(Tk.1 hx).elim (hS x) (Fb hv hf (by omega) x)) (fun j hj=>tq hv hf hi hj) (by rw[Te]; omega) (h40 i) hn with⟨v,t,h1,h2,h3⟩|⟨h1,s',h2,h3⟩
  ·refine .inl ⟨v,t,h1,?_,h3⟩;unfold qX
   try dsimp only
   rw[V7,al hi,aL,aR hx,ai,h2,ai]
  ·refine .inr ⟨h1,s',?_,h3⟩;unfold qX
   try dsimp only
   rw[V7,al hi,aL,aR hx,ai,h2,ai,V9]
 ·unfold qX
  try dsimp only
  rw[V8]
def ID(hv:Fcs pts F)(hn:99999<n) :
  (∃v t,bW (uo pts) [] (sE F)=some v/\bh (qV n F pts) n (0,[])=some (.inl t)/\v=t.1)\/(bW (uo pts) [] (sE F)=none/\∃s',bh (qV n F pts) n (0,[])=some (.inr s')/\s'=[]++sE F):=by
 have hfl:=hv.flen;refine oZ (B:=qV n F pts) (len:=F.length) (P:=uo pts) (g:=fun f=>fE (aw F f) f) (d:=[]) (fun d s=>s=d) (fun t v=>v=t.1) (fun i s hi hs=>?_) (fun s hs=>?_) F.length 0 n [] (by omega) (by omega) rfl (by rw[acc,TI])
 ·subst hs;have ha:=dD (g:=fun f=>fE (aw F f) f) (b:=360) (k:=i) fun j _=>by
   have h1:=dD (g:=fun r=>rE ((aw F j).getD r []) j r) (b:=40) (k:=(aw F j).length) fun r _=>Tv tj ((eV hv j).2 r);have h2:=(eV hv j).1;unfold fE; omega
  rcases G5 n hv hi (d:=[]++acc (fun f=>fE (aw F f) f) i) (fun x hx=>xY hv (k:=i) (by omega) x (by rwa[Uo] at hx)) (by rw[Uo]; omega) hn with⟨v,t,h1,h2,h3⟩|⟨h1,s',h2,h3⟩
  ·refine .inl ⟨v,((i:Int),t),h1,?_,h3⟩;unfold qV
   try dsimp only
   rw[V7,al hi,aL,aR (fO hi),ai]
   try dsimp only
   rw[kK n hv (by omega),ai,h2,ai]
  ·refine .inr ⟨h1,s',?_,h3⟩;unfold qV
   try dsimp only
   rw[V7,al hi,aL,aR (fO hi),ai]
   try dsimp only
   rw[kK n hv (by omega),ai,h2,ai,V9]
 ·unfold qV
  try dsimp only
  rw[V8]
end
def Cg(pts:WB I2)(l:WB Int):fi pts l 2=(fi pts l 1).map (dA 2):=by
 unfold fi;rw[List.map_map];refine List.map_congr_left fun i _=>TZ ?_ ?_
 show 2*_=1*_*2; omega
 show 2*_=1*_*2; omega
section
variable{pts:WB I2}{F:WB Fc}(n:Nat)
def OE{l:WB Int}(h:pJ (fi pts l 1)):VR (fi pts l 2):=by
 rw[Cg];exact(Da (s:=2) (by decide)).vr (yu.1 h).vr
def HU(hb:dI pts){l:WB Int}(hx:Ix pts l)(h3:3<=l.length)(i:Nat):Nw (nx (fi pts l 2) i):=by
 have hne:fi pts l 1≠[]:=fun e=>by have:=eU pts l 1; rw[e] at this; simp at this; omega
 rw[Cg,dF _ hne];have:=BD hb hx h3 i;unfold Nr at this;unfold Nw dA
 dsimp only
 omega
def zi(pts:WB I2)(e:Ed):I2:=((iV pts e.1).1+(iV pts e.2.1).1,(iV pts e.1).2+(iV pts e.2.1).2)
def xF(hb:dI pts){e:Ed}(he:yh pts e):Nw (zi pts e):=by
 have h1:=gC hb he.1;have h2:=gC hb he.2.1;unfold Nr at h1 h2;unfold Nw zi
 dsimp only
 omega
def CP(hb:dI pts){l:WB Int}(h:oz pts.length l=true){p:I2}(hp:Nw p)(hn:1000<n):Mx n (fi pts l 2) p.1 p.2=some (side (fi pts l 2) p):=by
 obtain⟨hx,h3,h4⟩:=gJ rfl h;exact JA n (fun i=>HU hb hx h3 i) hp (by rw[eU]; omega) (by rw[eU]; omega)
def yO(hb:dI pts){l:WB Int}(h:oz pts.length l=true)(hc:pJ (fi pts l 1)){p:I2}(hp:Nw p)(hn:1000<n):AO n (fi pts l 2) p.1 p.2=some (side (fi pts l 2) p):=by
 obtain⟨hx,h3,h4⟩:=gJ rfl h;exact DG n (OE hc) (fun i=>HU hb hx h3 i) hp (by rw[eU]; omega) (by rw[eU]; omega)
def Dt(hb:dI pts){e:Ed}(he:yh pts e):yX n pts F e.1 e.2.1 e.2.2.1 e.2.2.2=some (zi pts e):=by
 have h1:=gC hb he.1;have h2:=gC hb he.2.1;unfold Nr at h1 h2;unfold yX zi;rw[pK he.1,aL,il he.1,ai]
 try dsimp only
 rw[pK he.2.1,aL,il he.2.1,ai]
 try dsimp only
 rw[aA (by omega) (by omega),aA (by omega) (by omega)]
end
noncomputable def vj (pts:WB I2) (o:WB Int) (h:Vo) (p:I2):Bool:=decide (side (fi pts o 2) p=2)&&h.all fun l=>decide (side (fi pts l 2) p=0)
section
variable{pts:WB I2}{F:WB Fc}(n:Nat)
def IV(hb:dI pts){o:WB Int}{h:Vo}(ho:oz pts.length o=true)(hh:∀l∈h,oz pts.length l=true)(h8:h.length<=8){p:I2}(hp:Nw p)(hn:1000<n):K7 n pts F o h p.1 p.2 2=some (vj pts o h p):=by
 obtain⟨hx,h3,h4⟩:=gJ rfl ho;unfold K7 vj;rw[xO n hb hx (.inr rfl) (by omega) (by omega),ai,CP n hb ho hp hn,ai]
 by_cases c:side (fi pts o 2) p=2
 ·rw[au c,S5 c,Ut];have hl:bh (zu n h pts F 2 p.1 p.2) n 0=some (bI (fun i=>match h[i]? with|some l=>if decide (side (fi pts l 2) p=0)=true then none else some (.inl (i:Int))|none=>none) (.inr ()) h.length 0):=by
   refine bp (len:=h.length) (fun i hi=>?_) ?_ h.length 0 n (by omega) (by omega)
   ·have hy:=SR hi;generalize h[i]=l at hy;obtain⟨gx,g3,g4⟩:=gJ rfl (hh l (Td hy));unfold zu
    try dsimp only
    rw[V7,al hi,aL,aR hy,ai,xO n hb gx (.inr rfl) (by omega) (by omega),ai,CP n hb (hh l (Td hy)) hp hn,ai,ai,V9,hy]
    try dsimp only
    cases decide (side (fi pts l 2) p=0)<;>rfl
   ·unfold zu
    try dsimp only
    rw[V8]
  rw[hl,ai];rcases cK (f:=fun i=>match h[i]? with|some l=>if decide (side (fi pts l 2) p=0)=true then none else some (.inl (i:Int))|none=>none) (e:=(.inr ():Int⊕WC)) h.length 0 with⟨g1,g2⟩|⟨j,_,g2,g3⟩
  ·rw[g2];have:(h.all fun l=>decide (side (fi pts l 2) p=0))=true:=Tc.2 fun l hl=>by
    obtain⟨j,hj,ej⟩:=TL.1 hl;have:=g1 j (by omega) (by omega)
    try dsimp only at this
    rw[SR hj,ej] at this
    try dsimp only at this
    refine SV fun hc=>?_;rw[SS hc] at this; cases this
   rw[this]; rfl
  ·have hj:j<h.length:=by omega
   try dsimp only at g3
   rw[SR hj] at g3
   try dsimp only at g3
   by_cases g:decide (side (fi pts h[j] 2) p=0)=true
   rw[SU g] at g3; cases g3
   rw[SS g] at g3;have e:=(SX g3).symm;rw[e];have:(h.all fun l=>decide (side (fi pts l 2) p=0))=false:=by
    cases ha:h.all fun l=>decide (side (fi pts l 2) p=0)
    rfl
    exact Tj (Tc.1 ha _ (Tx hj)) g
   rw[this,ai,S7 (by omega)]
 rw[av c,S7 c]; rfl
end
section
variable{pts:WB I2}{F:WB Fc}(n:Nat)
noncomputable def uO (pts:WB I2) (rs:Vo) (p:I2) (i:Nat):WA (WC⊕WC):=match rs[i]? with|some l=>if i=0 then(if side (fi pts l 2) p=2 then none else some (.inl ())) else(if side (fi pts l 2) p=0 then none else some (.inl ()))|none=>none
def Eg(hb:dI pts){rs:Vo}(h9:rs.length<=9)(ho:∀l∈rs,oz pts.length l=true/\pJ (fi pts l 1)){p:I2}(hp:Nw p)(hn:1000<n):bh (sH n rs pts F 2 p.1 p.2) n 0=some (bI (uO pts rs p) (.inr ()) rs.length 0):=by
 refine bp (len:=rs.length) (fun i hi=>?_) ?_ rs.length 0 n (by omega) (by omega)
 ·have hy:=SR hi;generalize rs[i]=l at hy;obtain⟨h1,h2⟩:=ho l (Td hy);obtain⟨gx,g3,g4⟩:=gJ rfl h1;unfold sH uO
  try dsimp only
  rw[V7,al hi,aL,aR hy,ai,yv n hb gx (.inr rfl) (by omega) (by omega),ai,yO n hb h1 h2 hp hn,ai,V9,hy]
  try dsimp only
  by_cases g:i=0
  subst g;rw[V7]
  by_cases c:side (fi pts l 2) p=2
  rw[S5 c,show(!true)=false from rfl,fm,V8,ai,fm,SU rfl,SU c]
  rw[S7 c,show(!false)=true from rfl,fx,ai,fx,SU rfl,SS c]
  rw[V8,V7,ai,SS g]
  by_cases c:side (fi pts l 2) p=0
  rw[S5 c,SU c]; rfl
  rw[S7 c,SS c]; rfl
 ·unfold sH
  try dsimp only
  rw[V8]
end
def LH(pts:WB I2)(o:WB Int)(h:Vo)(p:I2):bI (uO pts (o::h) p) (.inr ()) (o::h).length 0=if vj pts o h p then .inr () else .inl ():=by
 have key:∀j r,uO pts (o::h) p j=some r->r=.inl ():=fun j r hr=>by
  unfold uO at hr
  split at hr
  split at hr
  split at hr
  cases hr
  exact(SX hr).symm
  split at hr
  cases hr
  exact(SX hr).symm
  cases hr
 have all:(∀j,j<(o::h).length->uO pts (o::h) p j=none)↔vj pts o h p=true:=by
  unfold vj;rw[SY,decide_eq_true_iff,Tc];constructor
  intro g;refine⟨SV fun c=>?_,fun l hl=>?_⟩
  have:=g 0 (by simp)
  unfold uO at this;simp[c] at this
  obtain⟨j,hj,e⟩:=TL.1 hl;have:=g (j+1) (by simp; omega)
  unfold uO at this;rw[TK,SR hj,e] at this;refine S5 (SV fun c=>?_);simp[c] at this
  ·rintro⟨g1,g2⟩ j hj;unfold uO;cases j with
   | zero=>simp[g1]
   | succ j =>
    have hj:j<h.length:=by simp at hj; omega
    rw[TK,SR hj];have:=of_decide_eq_true (g2 _ (Tx hj));simp[this]
 rcases cK (f:=uO pts (o::h) p) (e:=.inr ()) (o::h).length 0 with⟨h1,h2⟩|⟨j,_,h2,h3⟩
 rw[h2,SU (all.1 fun j hj=>h1 j (by omega) (by omega))]
 rw[SS fun c=>by rw[all.2 c j (by omega)] at h3; cases h3]
 exact key j _ h3
def JU{pts:WB I2}{F:WB Fc}(n:Nat)(hv:Fcs pts F){f:Nat}(hf:f<F.length){p:I2}(hp:Nw p)(hn:1000<n):FJ n pts F (f:Int) p.1 p.2 2=some (vj pts (F.getD f ([],[])).1 (F.getD f ([],[])).2 p):=by
 have h9:=(eV hv f).1;have ho:∀l∈aw F f,oz pts.length l=true/\pJ (fi pts l 1):=fun l hl=>by
  obtain⟨r,hr,e⟩:=TL.1 hl;have:=xy hv hf hr;rw[SZ,SR hr] at this;rw[<-e]; exact this
 unfold FJ;rw[al hf,aL,aR (fO hf),ai]
 try dsimp only
 rw[p8 n _ _ (by unfold aw at h9; rw[TJ] at h9; omega),ai]
 have h1:=Eg (F:=F) n hv.near h9 ho hp hn;unfold aw at h1;rw[h1,LH,ai];cases vj pts (F.getD f ([],[])).1 (F.getD f ([],[])).2 p<;>rfl
def k9{τ:Type}{B:Int->WA (Int ⊕(τ⊕WC))}{len:Nat}{P:WB Ed->Ed->Bool}{g:Nat->WB Ed}{d:WB Ed}(Q:τ->Int->Prop)
  (hB:∀i:Nat,i<len->(∃v t,bW P (d++acc g i) (g i)=some v/\B (i:Int)=some (.inr (.inl t))/\Q t v)\/(bW P (d++acc g i) (g i)=none/\B (i:Int)=some (.inl ((i+1:Nat):Int))))
  (hE:B (len:Int)=some (.inr (.inr ()))) :
  ∀(k i n:Nat),i+k=len->k<n->bW P d (acc g i)=none ->
   (∃v t,bW P d (acc g len)=some v/\bh B n (i:Int)=some (.inl t)/\Q t v)\/(bW P d (acc g len)=none/\bh B n (i:Int)=some (.inr ()))
 | 0,i,n+1,h,_,h0=>by
  rw[Ui] at h; subst h;exact .inr ⟨h0,fg hE⟩
 | k+1,i,n+1,h,hn,h0=>by
  rcases hB i (by omega) with⟨v,t,h1,h2,h3⟩|⟨h1,h2⟩
  refine .inl ⟨v,t,?_,fg h2,h3⟩;have:bW P d (acc g (i+1))=some v:=by rw[acc,kg,h0]; exact h1
  have:=wJ this k;rw[show i+1+k=len by omega] at this
  exact this
  rw[eQ h2];exact k9 Q hB hE k (i+1) n (by omega) (by omega) (by rw[acc,kg,h0]; exact h1)
noncomputable def uv (pts:WB I2) (F:WB Fc) (_:WB Ed) (e:Ed):Bool:=!decide (e.2.2.2=0) && !vj pts (F.getD e.2.2.1.toNat ([],[])).1 ((F.getD e.2.2.1.toNat ([],[])).2.take (e.2.2.2-1).toNat++(F.getD e.2.2.1.toNat ([],[])).2.drop e.2.2.2.toNat) (zi pts e)
section
variable{pts:WB I2}{F:WB Fc}(n:Nat)
def Ln{h:Vo}{r:Nat}(h0:r≠0)(h1:r<=h.length)(h8:h.length<=8):GW n h (Vx ((r:Int)-1)) (r:Int)=some (h.take ((r:Int)-1).toNat++h.drop ((r:Nat):Int).toNat):=by
 rw[aA (by omega) (by omega)]
 unfold GW;rw[S5 (show 0<h.length by omega),S5 (show(0:Int)<=(r:Int)-1 by omega),S5 (show(r:Int)-1<=(r:Int) by omega),S5 (show(r:Int)<=(h.length:Int) by omega),bl (by omega)]
 rfl
def CO(hv:Fcs pts F){f:Nat}(hf:f<F.length):oz pts.length (F.getD f ([],[])).1=true/\(F.getD f ([],[])).2.length<=8/\∀l ∈(F.getD f ([],[])).2,oz pts.length l=true:=by
 have e:F.getD f ([],[])=F[f]:=by rw[SZ,SR hf]; rfl
 rw[e];obtain⟨h8,h9⟩:=jR (hv.ok _ (Tx hf));exact⟨h9 _ (TE ..),h8,fun l hl=>h9 l (Tn _ hl)⟩
def G2(hv:Fcs pts F){f r:Nat}(hf:f<F.length)(hr:r<(aw F f).length){d:WB Ed}(hn:99999<n) :
  (∃v t,bW (uv pts F) d (rE ((aw F f).getD r []) f r)=some v/\bh (qL n ((aw F f).getD r []) (r:Int) (f:Int) F (F.getD f ([],[])).2 pts (F.getD f ([],[])).1) n 0=some (.inl t)/\v=(f:Int)) \/
  (bW (uv pts F) d (rE ((aw F f).getD r []) f r)=none/\bh (qL n ((aw F f).getD r []) (r:Int) (f:Int) F (F.getD f ([],[])).2 pts (F.getD f ([],[])).1) n 0=some (.inr ())):=by
 have h40:=(eV hv f).2 r;have hs:=fun i=>tq (i:=i) hv hf hr;obtain⟨ho,h8,hh⟩:=CO hv hf;have hrl:r<=(F.getD f ([],[])).2.length:=by unfold aw at hr; rw[TJ] at hr; omega
 generalize(aw F f).getD r []=l at *;refine k9 (B:=qL n l (r:Int) (f:Int) F (F.getD f ([],[])).2 pts (F.getD f ([],[])).1) (len:=l.length) (P:=uv pts F) (g:=fun i=>[gr l f r i]) (d:=d) (fun _ v=>v=(f:Int)) (fun i hi=>?_) ?_ l.length 0 n (by omega) (by omega) rfl
 ·obtain⟨e1,e2⟩:=pB hi;have hi2:(i+1)%l.length<l.length:=TY _ (by omega)
  have hS:=hs i hi;have hB:qL n l (r:Int) (f:Int) F (F.getD f ([],[])).2 pts (F.getD f ([],[])).1 (i:Int)=if uv pts F (d++acc (fun i=>[gr l f r i]) i) (gr l f r i) then some (.inr (.inl ())) else some (.inl ((i+1:Nat):Int)):=by
   have hx:(gr l f r i).1=l.getD i 0:=rfl;have hy:(gr l f r i).2.1=l.getD ((i+1)%l.length) 0:=rfl;unfold qL
   try dsimp only
   rw[V7]
   simp only[al hi,aL,e1,ai,ak (show i<4611686018427387904 by omega)]
   rw[eT (by omega)]
   simp only[iB,al hi2,aL,e2,ai];rw[<-hx,<-hy]
   by_cases r0:r=0
   subst r0;rw[V7,ai]
   have:uv pts F (d++acc (fun i=>[gr l f 0 i]) i) (gr l f 0 i)=false:=by unfold uv gr; rfl
   rw[this]; rfl
   ·have hP:uv pts F (d++acc (fun i=>[gr l f r i]) i) (gr l f r i) = !vj pts (F.getD f ([],[])).1 ((F.getD f ([],[])).2.take ((r:Int)-1).toNat++(F.getD f ([],[])).2.drop ((r:Nat):Int).toNat) (zi pts (gr l f r i)):=by
     unfold uv
     show(!decide ((r:Int)=0)&&_)=_
     rw[S7 (by omega)]; rfl
    rw[V8,al hf,aL,show LD n (F.getD f ([],[])).2=some (F.getD f ([],[])).2 by unfold LD; rw[bl (by omega)]; rfl,ai,Ln n r0 hrl h8,ai,pK hS.1,aL,il hS.1,ai]
    try dsimp only
    rw[pK hS.2.1,aL,il hS.2.1,ai]
    try dsimp only
    have h1:=gC hv.near hS.1;have h2:=gC hv.near hS.2.1;unfold Nr at h1 h2;rw[aA (by omega) (by omega),aA (by omega) (by omega),ai]
    try dsimp only
    have h59:K7 n pts F (F.getD f ([],[])).1 ((F.getD f ([],[])).2.take ((r:Int)-1).toNat++(F.getD f ([],[])).2.drop ((r:Nat):Int).toNat) ((iV pts (gr l f r i).1).1+(iV pts (gr l f r i).2.1).1) ((iV pts (gr l f r i).1).2+(iV pts (gr l f r i).2.1).2) 2=some _ :=
     IV (F:=F) (p:=zi pts (gr l f r i)) n hv.near ho (fun l hl=>(Tk.1 hl).elim (fun h=>hh l (Uz h)) (fun h=>hh l (UA h))) (by rw[Te,Th,TP]; omega) (xF hv.near hS) (by omega)
    rw[h59,ai,hP];cases vj pts (F.getD f ([],[])).1 ((F.getD f ([],[])).2.take ((r:Int)-1).toNat++(F.getD f ([],[])).2.drop ((r:Nat):Int).toNat) (zi pts (gr l f r i))<;>rfl
  by_cases c:uv pts F (d++acc (fun i=>[gr l f r i]) i) (gr l f r i)=true
  rw[SU c] at hB;exact .inl ⟨(f:Int),(),by rw[bW,SU c]; rfl,hB,rfl⟩
  rw[SS c] at hB;exact .inr ⟨by rw[bW,SS c,bW],hB⟩
 ·unfold qL
  try dsimp only
  rw[V8]
def IE(hv:Fcs pts F){f:Nat}(hf:f<F.length){d:WB Ed}(hn:99999<n) :
  (∃v t,bW (uv pts F) d (fE (aw F f) f)=some v/\bh (qG n (aw F f) (f:Int) F (F.getD f ([],[])).2 pts (F.getD f ([],[])).1) n 0=some (.inl t)/\v=(f:Int)) \/
  (bW (uv pts F) d (fE (aw F f) f)=none/\bh (qG n (aw F f) (f:Int) F (F.getD f ([],[])).2 pts (F.getD f ([],[])).1) n 0=some (.inr ())):=by
 obtain⟨h9,h40⟩:=eV hv f;refine k9 (B:=qG n (aw F f) (f:Int) F (F.getD f ([],[])).2 pts (F.getD f ([],[])).1) (len:=(aw F f).length) (P:=uv pts F) (g:=fun r=>rE ((aw F f).getD r []) f r) (d:=d) (fun _ v=>v=(f:Int)) (fun i hi=>?_) ?_ (aw F f).length 0 n (by omega) (by omega) rfl
 ·have hx:(aw F f)[i]? = some ((aw F f).getD i []):=by rw[SZ,SR hi]; rfl
  rcases G2 n hv hf hi (d:=d++acc (fun r=>rE ((aw F f).getD r []) f r) i) hn with⟨v,t,h1,h2,h3⟩|⟨h1,h2⟩
  ·refine .inl ⟨v,(),h1,?_,h3⟩;unfold qG
   try dsimp only
   rw[V7,al hi,aL,aR hx,ai,h2,ai]
  ·refine .inr ⟨h1,?_⟩;unfold qG
   try dsimp only
   rw[V7,al hi,aL,aR hx,ai,h2,ai,V9]
 ·unfold qG
  try dsimp only
  rw[V8]
def Ew(hv:Fcs pts F)(hn:99999<n) :
  (∃v t,bW (uv pts F) [] (sE F)=some v/\bh (mK n F pts) n 0=some (.inl t)/\v=t)\/(bW (uv pts F) [] (sE F)=none/\bh (mK n F pts) n 0=some (.inr ())):=by
 have hfl:=hv.flen;refine k9 (B:=mK n F pts) (len:=F.length) (P:=uv pts F) (g:=fun f=>fE (aw F f) f) (d:=[]) (fun t v=>v=t) (fun i hi=>?_) ?_ F.length 0 n (by omega) (by omega) rfl
 ·rcases IE n hv hi (d:=[]++acc (fun f=>fE (aw F f) f) i) hn with⟨v,t,h1,h2,h3⟩|⟨h1,h2⟩
  ·refine .inl ⟨v,(i:Int),h1,?_,h3⟩;unfold mK
   try dsimp only
   rw[V7,al hi,aL,aR (fO hi),ai]
   try dsimp only
   rw[kK n hv (by omega),ai,h2,ai]
  ·refine .inr ⟨h1,?_⟩;unfold mK
   try dsimp only
   rw[V7,al hi,aL,aR (fO hi),ai]
   try dsimp only
   rw[kK n hv (by omega),ai,h2,ai,V9]
 ·unfold mK
  try dsimp only
  rw[V8]
end
def s9{ρ:Type}{r:ρ⊕WC}{q:Nat->Bool}{f:Nat->WA (ρ⊕WC)}{len:Nat}(hf:∀i,i<len->f i=if q i then some r else none):bI f (.inr ()) len 0=if(List.range len).any q then r else .inr ():=by
 rcases cK (f:=f) (e:=.inr ()) len 0 with⟨h1,h2⟩|⟨j,_,h2,h3⟩
 rw[h2,SS];intro h;obtain⟨i,hi,hq⟩:=UU.1 h;rw[Ua] at hi;have:=h1 i (by omega) (by omega)
 rw[hf i hi,SU hq] at this; cases this
 have hj:j<len:=by omega
 rw[hf j hj] at h3
 by_cases g:q j=true
 rw[SU g] at h3;rw[SU (UU.2 ⟨j,Ua.2 hj,g⟩)];exact(SX h3).symm
 rw[SS g] at h3; cases h3
noncomputable def Ir (pts:WB I2) (F:WB Fc) (e:Ed) (i:Nat):Bool:=!decide ((i:Int)=e.2.2.1)&&vj pts (F.getD i ([],[])).1 (F.getD i ([],[])).2 (zi pts e)
noncomputable def yx (pts:WB I2) (F:WB Fc) (_:WB Ed) (e:Ed):Bool:=(List.range F.length).any (Ir pts F e)
section
variable{pts:WB I2}{F:WB Fc}(n:Nat)
def EW(hv:Fcs pts F){e:Ed}(hS:yh pts e)(hn:99999<n):bh (sO n F e.2.2.1 e.1 pts e.2.1) n 0=some (if(List.range F.length).any (Ir pts F e) then .inl () else .inr ()):=by
 have hfl:=hv.flen;rw[<-s9 (r:=(.inl ():WC⊕WC)) (q:=Ir pts F e) (f:=fun i=>if Ir pts F e i then some (.inl ()) else none) (len:=F.length) (fun i _=>rfl)]
 refine bp (len:=F.length) (fun i hi=>?_) ?_ F.length 0 n (by omega) (by omega)
 ·obtain⟨ho,h8,hh⟩:=CO hv hi;unfold sO
  try dsimp only
  rw[V7,al hi,aL,aR (fO hi),ai]
  try dsimp only
  unfold Ir
  by_cases c:(i:Int)=e.2.2.1
  rw[S5 c];simp only[TG,fm,ai,Bool.false_and,Ts,if_false];rw[V9]
  ·rw[S7 c];rw[TC,fx,pK hS.1,aL,il hS.1,ai]
   try dsimp only
   rw[pK hS.2.1,aL,il hS.2.1,ai]
   try dsimp only
   have h1:=gC hv.near hS.1;have h2:=gC hv.near hS.2.1;unfold Nr at h1 h2;rw[aA (x:=(iV pts e.1).1+(iV pts e.2.1).1) (by omega) (by omega),aA (x:=(iV pts e.1).2+(iV pts e.2.1).2) (by omega) (by omega),ai]
   try dsimp only
   have h59:K7 n pts F (F.getD i ([],[])).1 (F.getD i ([],[])).2 ((iV pts e.1).1+(iV pts e.2.1).1) ((iV pts e.1).2+(iV pts e.2.1).2) 2=some _:=IV (F:=F) (p:=zi pts e) n hv.near ho hh h8 (xF hv.near hS) (by omega)
   rw[h59,ai,ai,V9,Ut]
   cases vj pts (F.getD i ([],[])).1 (F.getD i ([],[])).2 (zi pts e)<;>rfl
 ·unfold sO
  try dsimp only
  rw[V8]
def D3(hv:Fcs pts F){f r:Nat}(hf:f<F.length)(hr:r<(aw F f).length){d:WB Ed}(hn:99999<n) :
  (∃v t,bW (yx pts F) d (rE ((aw F f).getD r []) f r)=some v/\bh (lS n ((aw F f).getD r []) F (f:Int) pts) n 0=some (.inl t)/\v=(f:Int)) \/
  (bW (yx pts F) d (rE ((aw F f).getD r []) f r)=none/\bh (lS n ((aw F f).getD r []) F (f:Int) pts) n 0=some (.inr ())):=by
 have h40:=(eV hv f).2 r;have hs:=fun i=>tq (i:=i) hv hf hr;generalize(aw F f).getD r []=l at *;refine k9 (B:=lS n l F (f:Int) pts) (len:=l.length) (P:=yx pts F) (g:=fun i=>[gr l f r i]) (d:=d) (fun _ v=>v=(f:Int)) (fun i hi=>?_) ?_ l.length 0 n (by omega) (by omega) rfl
 ·obtain⟨e1,e2⟩:=pB hi;have hi2:(i+1)%l.length<l.length:=TY _ (by omega)
  have hS:=hs i hi;have h11:=EW n hv hS hn;have hB:lS n l F (f:Int) pts (i:Int)=if yx pts F (d++acc (fun i=>[gr l f r i]) i) (gr l f r i) then some (.inr (.inl ())) else some (.inl ((i+1:Nat):Int)):=by
   unfold lS
   try dsimp only
   rw[V7]
   simp only[al hi,aL,e1,ai,ak (show i<4611686018427387904 by omega)]
   rw[eT (by omega)]
   simp only[iB,al hi2,aL,e2,ai];unfold yx;unfold gr at h11 ⊢
   dsimp only at h11
   rw[h11];cases(List.range F.length).any (Ir pts F (l.getD i 0,l.getD ((i+1)%l.length) 0,(f:Int),(r:Int)))<;>rfl
  by_cases c:yx pts F (d++acc (fun i=>[gr l f r i]) i) (gr l f r i)=true
  rw[SU c] at hB;exact .inl ⟨(f:Int),(),by rw[bW,SU c]; rfl,hB,rfl⟩
  rw[SS c] at hB;exact .inr ⟨by rw[bW,SS c,bW],hB⟩
 ·unfold lS
  try dsimp only
  rw[V8]
def DP(hv:Fcs pts F){f:Nat}(hf:f<F.length){d:WB Ed}(hn:99999<n) :
  (∃v t,bW (yx pts F) d (fE (aw F f) f)=some v/\bh (mL n (aw F f) F (f:Int) pts) n 0=some (.inl t)/\v=(f:Int)) \/
  (bW (yx pts F) d (fE (aw F f) f)=none/\bh (mL n (aw F f) F (f:Int) pts) n 0=some (.inr ())):=by
 obtain⟨h9,h40⟩:=eV hv f;refine k9 (B:=mL n (aw F f) F (f:Int) pts) (len:=(aw F f).length) (P:=yx pts F) (g:=fun r=>rE ((aw F f).getD r []) f r) (d:=d) (fun _ v=>v=(f:Int)) (fun i hi=>?_) ?_ (aw F f).length 0 n (by omega) (by omega) rfl
 ·have hx:(aw F f)[i]? = some ((aw F f).getD i []):=by rw[SZ,SR hi]; rfl
  rcases D3 n hv hf hi (d:=d++acc (fun r=>rE ((aw F f).getD r []) f r) i) hn with⟨v,t,h1,h2,h3⟩|⟨h1,h2⟩
  ·refine .inl ⟨v,(),h1,?_,h3⟩;unfold mL
   try dsimp only
   rw[V7,al hi,aL,aR hx,ai,h2,ai]
  ·refine .inr ⟨h1,?_⟩;unfold mL
   try dsimp only
   rw[V7,al hi,aL,aR hx,ai,h2,ai,V9]
 ·unfold mL
  try dsimp only
  rw[V8]
def ES(hv:Fcs pts F)(hn:99999<n) :
  (∃v t,bW (yx pts F) [] (sE F)=some v/\bh (my n F pts) n 0=some (.inl t)/\v=t)\/(bW (yx pts F) [] (sE F)=none/\bh (my n F pts) n 0=some (.inr ())):=by
 have hfl:=hv.flen;refine k9 (B:=my n F pts) (len:=F.length) (P:=yx pts F) (g:=fun f=>fE (aw F f) f) (d:=[]) (fun t v=>v=t) (fun i hi=>?_) ?_ F.length 0 n (by omega) (by omega) rfl
 ·rcases DP n hv hi (d:=[]++acc (fun f=>fE (aw F f) f) i) hn with⟨v,t,h1,h2,h3⟩|⟨h1,h2⟩
  ·refine .inl ⟨v,(i:Int),h1,?_,h3⟩;unfold my
   try dsimp only
   rw[V7,al hi,aL,aR (fO hi),ai]
   try dsimp only
   rw[kK n hv (by omega),ai,h2,ai]
  ·refine .inr ⟨h1,?_⟩;unfold my
   try dsimp only
   rw[V7,al hi,aL,aR (fO hi),ai]
   try dsimp only
   rw[kK n hv (by omega),ai,h2,ai,V9]
 ·unfold my
  try dsimp only
  rw[V8]
end
noncomputable def HM (pts:WB I2) (rs:Vo) (r:Nat) (p:I2) (j:Nat):Bool:=if j=0 then !decide (side (fi pts (rs.getD j []) 2) p=2) else !decide ((j:Int)=(r:Int)) && !decide (side (fi pts (rs.getD j []) 2) p=0)
def Lb{pts:WB I2}{o:WB Int}{h:Vo}{r:Nat}(h0:r≠0)(p:I2):(List.range (o::h).length).any (HM pts (o::h) r p) = !vj pts o (h.take ((r:Int)-1).toNat++h.drop ((r:Nat):Int).toNat) p:=by
 have e1:((r:Int)-1).toNat=r-1:=by omega
 have e2:((r:Nat):Int).toNat=r:=by omega
 rw[e1,e2];have key:(∀j,j<h.length+1->HM pts (o::h) r p j=false)↔vj pts o (h.take (r-1)++h.drop r) p=true:=by
  unfold vj;rw[SY,decide_eq_true_iff,Tc];have at1:∀j,(hj:j<h.length)->(HM pts (o::h) r p (j+1)=false↔j+1=r\/side (fi pts h[j] 2) p=0):=fun j hj=>by
   unfold HM;rw[Vz,List.getD_cons_succ,SZ,SR hj,Vb]
   by_cases c:j+1=r
   rw[S5 (show((j+1:Nat):Int)=(r:Int) by omega)]; simp[c]
   rw[S7 (show ¬((j+1:Nat):Int)=(r:Int) by omega)]; simp[c]
  constructor
  intro g;refine⟨?_,fun l hl=>S5 ?_⟩
  have:=g 0 (by omega)
  unfold HM at this
  simpa using this
  rcases Tk.1 hl with hl|hl
  obtain⟨j,hj,e⟩:=TL.1 hl;rw[Th] at hj;rw[List.getElem_take] at e;have:=(at1 j (by omega)).1 (g (j+1) (by omega))
  rw[e] at this;rcases this with h|h
  omega
  exact h
  obtain⟨j,hj,e⟩:=TL.1 hl;rw[TP] at hj;rw[List.getElem_drop] at e;have:=(at1 (r+j) (by omega)).1 (g (r+j+1) (by omega))
  rw[e] at this;rcases this with h|h
  omega
  exact h
  ·rintro⟨g1,g2⟩ j hj;cases j with
   | zero=>unfold HM; simp[g1]
   | succ j =>
    rw[at1 j (by omega)]
    by_cases c:j+1=r
    exact .inl c
    refine .inr (of_decide_eq_true (g2 _ ?_));rw[Tk]
    by_cases c2:j+1<r
    exact .inl (TL.2 ⟨j,by rw[Th]; omega,by rw[List.getElem_take]⟩)
    refine .inr (TL.2 ⟨j-r,by rw[TP]; omega,?_⟩)
    rw[List.getElem_drop];have:r+(j-r)=j:=by omega
    simp only[this]
 rw[TJ];cases hI:vj pts o (h.take (r-1)++h.drop r) p
 rw[TC,UU];refine SV fun hc=>?_;have:vj pts o (h.take (r-1)++h.drop r) p=true:=key.1 fun j hj=>by
  cases hq:HM pts (o::h) r p j
  rfl
  exact Tj ⟨j,Ua.2 hj,hq⟩ hc
 rw[hI] at this; cases this
 rw[TG,List.any_eq_false];intro j hj;rw[key.2 hI j (Ua.1 hj)];decide
section
variable{pts:WB I2}{F:WB Fc}(n:Nat)
def GX(hb:dI pts){rs:Vo}(h4:rs.length<=9)(ho:∀l∈rs,oz pts.length l=true/\pJ (fi pts l 1)){E:WB Ed}{i r:Nat}{x1 x2 x3 p0 p1:Int}(hi:i<E.length)(h1:yX n pts F x1 x2 x3 (r:Int)=some (p0,p1))(hp:Nw (p0,p1))(hn:99999<n) :
  bh (Av n rs pts F (i:Int) E x1 x2 x3 (r:Int)) n 0=some (if(List.range rs.length).any (HM pts rs r (p0,p1)) then .inl () else .inr ()):=by
 rw[<-s9 (r:=(.inl ():WC⊕WC)) (q:=HM pts rs r (p0,p1)) (f:=fun j=>if HM pts rs r (p0,p1) j then some (.inl ()) else none) (len:=rs.length) (fun j _=>rfl)]
 refine bp (len:=rs.length) (fun j hj=>?_) ?_ rs.length 0 n (by omega) (by omega)
 ·have hy:=SR hj;have eg:rs.getD j []=rs[j]:=by rw[SZ,hy]; rfl
  unfold Av HM;rw[eg];generalize rs[j]=l at hy;obtain⟨h0,h2⟩:=ho l (Td hy);obtain⟨gx,g0,g1⟩:=gJ rfl h0;have h3:AO n (fi pts l 2) p0 p1=some (side (fi pts l 2) (p0,p1)):=yO (p:=(p0,p1)) n hb h0 h2 hp (by omega)
  try dsimp only
  rw[V7]
  simp only[al hj,aL,aR hy,ai];rw[yv n hb gx (.inr rfl) (by omega) (by omega),ai]
  simp only[al hi,aL];rw[h1,ai]
  try dsimp only
  rw[h3,ai,V9]
  by_cases c:j=0
  subst c;rw[V7,SU rfl]
  by_cases s:side (fi pts l 2) (p0,p1)=2
  rw[S5 s,TG,fm,V8,ai]; rfl
  rw[S7 s,TC,fx,ai]; rfl
  rw[V8,V7,SS c]
  cases decide ((j:Int)=(r:Int))<;>cases decide (side (fi pts l 2) (p0,p1)=0)<;>rfl
 ·unfold Av
  try dsimp only
  rw[V8]
def Sn(F:WB Fc)(e:Ed):Prop:=∃f r k:Nat,f<F.length/\r<(aw F f).length/\k<((aw F f).getD r []).length/\e=gr ((aw F f).getD r []) f r k
def FP{k:Nat}(hk:k<=F.length):∀x∈acc (fun f=>fE (aw F f) f) k,Sn F x:=fun x hx=>by
 obtain⟨f,hf,h⟩:=fQ hx;obtain⟨r,hr,h⟩:=fQ h;obtain⟨i,hi,h⟩:=fQ h;exact⟨f,r,i,by omega,hr,hi,by simpa using h⟩
def G8(hv:Fcs pts F){f:Nat}(hf:f<F.length):∀l∈aw F f,oz pts.length l=true/\pJ (fi pts l 1):=fun l hl=>by
 obtain⟨r,hr,e⟩:=TL.1 hl;have:=xy hv hf hr;rw[SZ,SR hr] at this;rw[<-e]; exact this
def F3(hv:Fcs pts F){E:WB Ed}(hS:∀e∈E,Sn F e)(hE:E.length<50000)(hn:99999<n):bh (zO n E F pts) n 0=some (HG (bW (uv pts F) [] E)):=by
 have:=lJ (P:=uv pts F) (E:=E) (f:=fun i=>match E[i]? with|some e=>if uv pts F (E.take i) e then some (.inl e.2.2.1) else none|none=>none) (fun i e he=>by simp only[he]) E.length 0 (by omega)
 rw[List.take_zero,Uw] at this;rw[<-this];refine bp (len:=E.length) (fun i hi=>?_) ?_ E.length 0 n (by omega) (by omega)
 ·have hx:=SR hi;obtain⟨f,r,k,hf,hr,hk,he⟩:=hS _ (Tx hi);rw[he] at hx;have hT:=tq hv hf hr hk;have h0:=(eV hv f).1;have ho:=G8 hv hf;generalize(aw F f).getD r []=l at *;have h1:=Dt (F:=F) n hv.near hT;have hnw:=xF hv.near hT;have hP:uv pts F (E.take i) (gr l f r k)=(!decide ((r:Int)=0) && !vj pts (F.getD f ([],[])).1 ((F.getD f ([],[])).2.take ((r:Int)-1).toNat++(F.getD f ([],[])).2.drop ((r:Nat):Int).toNat) (zi pts (gr l f r k))):=by
   unfold uv; rfl
  unfold zO
  try dsimp only
  rw[hx]
  try dsimp only
  rw[hP,show(gr l f r k).2.2.1=(f:Int) from rfl]
  have h121':yX n pts F (l.getD k 0) (l.getD ((k+1)%l.length) 0) (f:Int) (r:Int)=some (zi pts (gr l f r k)):=h1;generalize zi pts (gr l f r k)=p at *;obtain⟨p0,p1⟩:=p;unfold gr at hx;rw[V7]
  simp only[al hi,aL,aR hx,ai]
  by_cases r0:r=0
  ·subst r0;rw[V7,ai]
   try dsimp only
   rw[V9]; rfl
  rw[V8,S7 (show ¬((r:Int)=0) by omega),TC,Ut]
  simp only[al hf,aL,aR (fO hf),ai];rw[p8 n _ _ (by unfold aw at h0; rw[TJ] at h0; omega),ai,show((F.getD f ([],[])).1::(F.getD f ([],[])).2)=aw F f from rfl,GX n hv.near h0 ho hi h121' hnw hn,ai]
  have:=Lb (pts:=pts) (o:=(F.getD f ([],[])).1) (h:=(F.getD f ([],[])).2) r0 (p0,p1);rw[show((F.getD f ([],[])).1::(F.getD f ([],[])).2)=aw F f from rfl] at this
  rw[this,V9]
  cases vj pts (F.getD f ([],[])).1 ((F.getD f ([],[])).2.take ((r:Int)-1).toNat++(F.getD f ([],[])).2.drop ((r:Nat):Int).toNat) (p0,p1)<;>rfl
 ·unfold zO
  try dsimp only
  rw[V8]
def GD(hv:Fcs pts F){E:WB Ed}(hS:∀e∈E,yh pts e)(hE:E.length<50000)(hn:99999<n):bh (AH n E F pts) n 0=some (HG (bW (yx pts F) [] E)):=by
 have hfl:=hv.flen;have:=lJ (P:=yx pts F) (E:=E) (f:=fun i=>match E[i]? with|some e=>if yx pts F (E.take i) e then some (.inl e.2.2.1) else none|none=>none) (fun i e he=>by simp only[he]) E.length 0 (by omega)
 rw[List.take_zero,Uw] at this;rw[<-this];refine bp (len:=E.length) (fun i hi=>?_) ?_ E.length 0 n (by omega) (by omega)
 ·have hx:=SR hi;have hT:=hS _ (Tx hi);generalize E[i]=e at *;have h0:=Dt (F:=F) n hv.near hT;have hnw:=xF hv.near hT;have hin:bh (zn n F (i:Int) E pts) n 0=some (if(List.range F.length).any (Ir pts F e) then .inl e.2.2.1 else .inr ()):=by
   rw[<-s9 (r:=(.inl e.2.2.1:Int⊕WC)) (q:=Ir pts F e) (f:=fun i=>if Ir pts F e i then some (.inl e.2.2.1) else none) (len:=F.length) (fun i _=>rfl)]
   refine bp (len:=F.length) (fun j hj=>?_) ?_ F.length 0 n (by omega) (by omega)
   ·have h1:=JU n hv hj hnw (by omega)
    unfold zn Ir
    try dsimp only
    generalize zi pts e=p at *;obtain⟨p0,p1⟩:=p;obtain⟨x1,x2,x3,x4⟩:=e
    dsimp only at h1 h0 ⊢
    rw[V7]
    simp only[al hi,aL,aR hx,ai]
    by_cases c:(j:Int)=x3
    rw[S5 c];simp only[TG,fm,ai,Bool.false_and,Ts,if_false];rw[V9]
    ·rw[S7 c,TC,fx,h0,ai]
     try dsimp only
     rw[h1,ai,ai,V9,Ut]
     cases vj pts (F.getD j ([],[])).1 (F.getD j ([],[])).2 (p0,p1)<;>rfl
   ·unfold zn
    try dsimp only
    rw[V8]
  unfold AH
  try dsimp only
  rw[V7,hin,ai,V9,hx]
  try dsimp only
  unfold yx;cases(List.range F.length).any (Ir pts F e)<;>rfl
 ·unfold AH
  try dsimp only
  rw[V8]
noncomputable def Mt (pts:WB I2) (F:WB Fc):Int×Int:=match bW uP [] (sE F) with
 | some v=>(7,v)
 | none=>match bW (uo pts) [] (sE F) with
  | some v=>(8,v)
  | none=>match bW (uv pts F) [] (sE F) with
   | some v=>(9,v)
   | none=>match bW (yx pts F) [] (sE F) with
    | some v=>(10,v)
    | none=>(0,0)
def tp(hv:Fcs pts F):(sE F).length<50000:=by
 have hfl:=hv.flen;have ha:=dD (g:=fun f=>fE (aw F f) f) (b:=360) (k:=F.length) fun j _=>by
  have h1:=dD (g:=fun r=>rE ((aw F j).getD r []) j r) (b:=40) (k:=(aw F j).length) fun r _=>Tv tj ((eV hv j).2 r);have h2:=(eV hv j).1;unfold fE; omega
 unfold sE; omega
def OV(hv:Fcs pts F)(hn:99999<n):QK n pts F=some (Mt pts F):=by
 have h1:=Ju n (tp hv) hn;have h2:=Gr (F:=F) n hv.near (xY hv (S0 _)) (tp hv) hn;have h3:=F3 n hv (FP (S0 _)) (tp hv) hn;have h4:=GD n hv (xY hv (S0 _)) (tp hv) hn;unfold sE at h2 h3 h4;unfold QK Mt;rw[DA n hv (by omega),ai,h1,ai]
 cases bW uP [] (sE F) with
 | some v=>rfl
 | none =>
 show ob _ _=_
 unfold sE;rw[h2,ai];cases bW (uo pts) [] _ with
 | some v=>rfl
 | none =>
 show ob _ _=_
 rw[h3,ai];cases bW (uv pts F) [] _ with
 | some v=>rfl
 | none =>
 show ob _ _=_
 rw[h4,ai];cases bW (yx pts F) [] _ with
 | some v=>rfl
 | none=>rfl
def OI(hv:Fcs pts F)(hn:99999<n):QT n pts F=some (Mt pts F):=by
 unfold QT Mt;rw[ai];rcases Ij n hv (by omega) with⟨v,t,a1,a2,a3⟩|⟨a1,s,a2,a3⟩
 rw[a2,a1,a3]; rfl
 rw[a2,a1,ai];simp only[ai];rcases ID n hv hn with⟨v,t,b1,b2,b3⟩|⟨b1,s,b2,b3⟩
 rw[b2,b1,b3]; rfl
 rw[b2,b1,ai];simp only[ai];rcases Ew n hv hn with⟨v,t,c1,c2,c3⟩|⟨c1,c2⟩
 rw[c2,c1,c3]; rfl
 rw[c2,c1,ai];simp only[ai];rcases ES n hv hn with⟨v,t,d1,d2,d3⟩|⟨d1,d2⟩
 rw[d2,d1,d3]; rfl
 rw[d2,d1]; rfl
end
def LF{α:Type}[DecidableEq α]{B:Int->WA (Int ⊕(WC⊕WC))}{l l':WB α}{n:Nat}(h:l.length=l'.length)
  (hB:∀(i:Nat) (hi:i<l.length) (hi':i<l'.length),B (i:Int)=some (if l[i]=l'[i] then .inl ((i+1:Nat):Int) else .inr (.inl ())))
  (hE:B (l.length:Int)=some (.inr (.inr ()))) (hn:l.length<n):bh B n 0=some (if l=l' then .inr () else .inl ()):=by
 have h1:bh B n 0=some (bI (fun i=>if l[i]? = l'[i]? then none else some (.inl ())) (.inr ()) l.length 0):=by
  refine bp (len:=l.length) (fun i hi=>?_) hE l.length 0 n (by omega) hn
  rw[hB i hi (by omega),SR hi,SR (show i<l'.length by omega)]
  by_cases c:l[i]=l'[i]
  rw[SU c,SU (by rw[c])]
  rw[SS c,SS (fun e=>c (SX e))]
 rw[h1];rcases cK (f:=fun i=>if l[i]? = l'[i]? then none else some (.inl ())) (e:=(.inr ():WC⊕WC)) l.length 0 with⟨g1,g2⟩|⟨j,_,g2,g3⟩
 rw[g2,SU];refine List.ext_getElem h fun i hi hi'=>?_;have:=g1 i (by omega) (by omega)
 rw[SR hi,SR hi'] at this;refine SV fun c=>?_;rw[SS (fun e=>c (SX e))] at this;cases this
 by_cases c:l[j]? = l'[j]?
 rw[SU c] at g3; cases g3
 rw[SS c] at g3;rw[<-SX g3,SS (fun e=>c (by rw[e]))]
section
variable(n:Nat)
def QU(f:Fc):Prop:=f.1.length<=1000/\f.2.length<=1000/\∀h∈f.2,h.length<=1000
def LX(c:WB I2×WB Fc):Prop:=c.1.length<=1000/\c.2.length<=1000/\∀f∈c.2,QU f
end
def nJ{α:Type}(l:WB α)(k:Nat):(V6 l k)=l.take k:=by
 show l.take ((mi (l.length:Int) (k:Int)).toNat-0)=_
 rw[eK,UC];rcases Nat.le_total l.length k with g|g
 rw[Uv (by omega),Uv g]
 rw[show(min (l.length:Int) (k:Int)).toNat=k by omega]
def rI{α:Type}(l:WB α)(k:Nat):okB 0 (mi (l.length:Int) (k:Int)) l.length=true:=S5 (by rw[eK]; omega)
section
variable{α β:Type}
def Ra(l:WB α):(V6 l 10)=l.take 10:=nJ l 10
def Qi(l:WB α):(V6 l 42)=l.take 42:=nJ l 42
def QD(l:WB α):(V6 l 66)=l.take 66:=nJ l 66
def PL(l:WB α):(V6 l 125)=l.take 125:=nJ l 125
def RA(l:WB α):okB 0 (mi (l.length:Int) (10:Int)) l.length=true:=rI l 10
def Qy(l:WB α):okB 0 (mi (l.length:Int) (42:Int)) l.length=true:=rI l 42
def R3(l:WB α):okB 0 (mi (l.length:Int) (66:Int)) l.length=true:=rI l 66
def Qp(l:WB α):okB 0 (mi (l.length:Int) (125:Int)) l.length=true:=rI l 125
def vC{o:WA α}{K:α->WA β}{R:β->Prop}(Q:α->Prop)(h:∃q,o=some q/\Q q)(hK:∀q,Q q->∃c,K q=some c/\R c):∃c,ob o K=some c/\R c:=by
 obtain⟨q,rfl,h2⟩:=h;exact hK q h2
def fJ{c:Bool}{A B:WA α}{Q:α->Prop}(h1:c=true->∃q,A=some q/\Q q)(h2:c=false->∃q,B=some q/\Q q):∃q,br c A B=some q/\Q q:=by
 cases c
 exact h2 rfl
 exact h1 rfl
def iv{c:Bool}{A:WA α}{Q:α->Prop}(hc:c=true)(h:∃q,A=some q/\Q q):∃q,gd c A=some q/\Q q:=by
 subst hc; exact h
def qD{l:WB α}{i:Nat}(hi:i<l.length){K:α->WA β}{R:β->Prop}(h:∀x∈l,l[((i:Nat):Int).toNat]? = some x->∃c,K x=some c/\R c):∃c,ob (l[((i:Nat):Int).toNat]?) K=some c/\R c:=by
 have e:=aR (SR hi);rw[e,ai];exact h _ (Tx hi) e
end
def Mi(f:Fc):Fc:=(f.1.take 42,(f.2.take 10).map fun h=>h.take 42)
def Rb(c:WB I2×WB Fc):Prop:=c.1.length<=125/\c.2.length<=66/\∀f∈c.2,f.1.length<=42/\f.2.length<=10/\∀h∈f.2,h.length<=42
def Pe(c:WB I2×WB Fc):WB I2×WB Fc:=(c.1.take 125,(c.2.take 66).map Mi)
def Fp(f:Fc):(Mi f).1.length<=42/\(Mi f).2.length<=10/\∀h ∈(Mi f).2,h.length<=42:=by
 unfold Mi;refine⟨by rw[Th]; omega,by rw[To,Th]; omega,fun h hh=>?_⟩
 obtain⟨x,_,rfl⟩:=TS.1 hh;rw[Th]; omega
def NN(c:WB I2×WB Fc):Rb (Pe c):=by
 unfold Pe;refine⟨by rw[Th]; omega,by rw[To,Th]; omega,fun f hf=>?_⟩
 obtain⟨x,_,rfl⟩:=TS.1 hf;exact Fp x
def s7(n:Nat){l:WB Int}(h:l.length<=1000):zx n l=some l:=by
 unfold zx; rw[bl (by omega)]; rfl
def IJ(n:Nat)(h:Vo)(hn:1000<n):bh (vA n h) n ([],0)=some ((h.take 10).map fun x=>x.take 42):=by
 refine yc (B:=vA n h) (l:=h.take 10) (fun x=>x.take 42) id (fun i x hx hi=>?_) ?_ (by rw[Th]; omega)
 have h10:(h.take 10).length<=10:=by rw[Th]; omega
 unfold vA;simp only[Ra,Qi,Qy];rw[V7,al hi,aL,aR hx,ai,aL,s7 n (by rw[Th]; omega),ai,bl (by simp; omega),aL,V9]
 unfold vA;simp only[Ra];rw[V8]; rfl
def Je(n:Nat)(p:WB I2)(F:WB Fc)(hn:1000<n):Pn n p F=some (Pe (p,F)):=by
 unfold Pn Pe;simp only[PL,Qp,R3,aL];rw[show LC n (p.take 125)=some (p.take 125) by unfold LC; rw[bl (by rw[Th]; omega)]; rfl,ai]
 have:bh (vQ n F) n ([],0)=some ((F.take 66).map Mi):=by
  refine yc (B:=vQ n F) (l:=F.take 66) Mi id (fun i x hx hi=>?_) ?_ (by rw[Th]; omega)
  ·have h66:(F.take 66).length<=66:=by rw[Th]; omega
   obtain⟨o,h⟩:=x;unfold vQ;simp only[QD,Qi,Qy,RA];rw[V7,al hi,aL,aR hx,ai]
   try dsimp only
   rw[aL,s7 n (by rw[Th]; omega),ai,aL,IJ n h hn,ai,bl (by simp; omega),aL,V9]
   rfl
  unfold vQ;simp only[QD];rw[V8]; rfl
 rw[this]; rfl
def FK{B:WB Int×Int×Int->WA ((WB Int×Int×Int)⊕WB Int)}{N:Nat}(hN:N<=1000)
  (hB:∀(l:WB Int) (a b:Nat),l.length=N->b<N->a<b->∃l',B (l,(a:Int),(b:Int))=some (.inl (l',((a+1:Nat):Int),((b-1:Nat):Int)))/\l'.length=N)
  (hE:∀(l:WB Int) (a b:Int),¬a<b->B (l,a,b)=some (.inr l)) :
  ∀(k n:Nat) (l:WB Int) (a b:Nat),l.length=N->b<N->b<=a+k->k<n->∃r,bh B n (l,(a:Int),(b:Int))=some r/\r.length=N
 | 0,n+1,l,a,b,hl,_,hk,_=>⟨l,fg (hE l _ _ (by omega)),hl⟩
 | k+1,n+1,l,a,b,hl,hb,hk,hn=>by
  by_cases c:a<b
  obtain⟨l',h1,h2⟩:=hB l a b hl hb c;rw[eQ h1];exact FK hN hB hE k n l' (a+1) (b-1) h2 (by omega) (by omega) (by omega)
  exact⟨l,fg (hE l _ _ (by omega)),hl⟩
def yI(n:Nat){l:WB Int}(hl:l.length<=1000)(hn:2000<n):∃r,bh (s6 n l) n (l,0,Vx ((l.length:Int)-1))=some r/\r.length=l.length:=by
 by_cases h0:l.length=0
 ·refine⟨l,?_,rfl⟩;obtain⟨n,rfl⟩:∃k,n=k+1:=⟨n-1,by omega⟩
  refine fg ?_;rw[aA (by omega) (by omega)]
  unfold s6
  try dsimp only
  rw[V8]
 rw[aA (by omega) (by omega),show((l.length:Int)-1)=((l.length-1:Nat):Int) by omega]
 refine FK (B:=s6 n l) (N:=l.length) hl (fun l' a b hl' hb hab=>?_) (fun l' a b hab=>?_) (l.length-1) n l 0 (l.length-1) rfl (by omega) (by omega) (by omega)
 ·have e1:l'[((b:Nat):Int).toNat]? = some (l'.getD b 0):=by rw[Ti,SZ,SR (by omega)]; rfl
  have e2:l'[((a:Nat):Int).toNat]? = some (l'.getD a 0):=by rw[Ti,SZ,SR (by omega)]; rfl
  have hs:∀x,(l'.set ((a:Nat):Int).toNat x)[((b:Nat):Int).toNat]? = some (l'.getD b 0):=fun x=>by
   rw[Ti,List.getElem?_set_ne (by rw[Ti]; omega),<-e1,Ti]
  refine⟨(l'.set ((a:Nat):Int).toNat (l'.getD b 0)).set ((b:Nat):Int).toNat (l'.getD a 0),?_,?_⟩
  ·unfold s6
   try dsimp only
   rw[V7,al hb,aL,e1,ai,al (show a<l.length by omega),aL,e2,ai,aL,aL,hs,ai,V9,aA (x:=(b:Int)-1) (by omega) (by omega),show((b:Int)-1)=((b-1:Nat):Int) by omega]
  rw[T0,T0]; exact hl'
 ·unfold s6
  try dsimp only
  rw[av hab]
def Gl(n:Nat){l:WB Int}(hl:l.length<=1000)(hn:2000<n):∃r,bh (H7 n l) n (l,0,Vx ((l.length:Int)-1))=some r/\r.length=l.length:=yI n hl hn
def Af(n:Nat)(x3:Nat){l:WB Int}(hl:l.length<=1000)(hn:2000<n):∀(k m:Nat) (s:Vo),10<=s.length+k->k<m->s.length<=20->(∀h∈s,h.length<=1000)->∃r,bh (tY n x3 l) m s=some r/\r.length<=20/\∀h∈r,h.length<=1000
 | 0,m+1,s,hs,_,h20,hh=>by
  have hw:Vx ((x3%2:Nat):Int)=((x3%2:Nat):Int):=aA (by omega) (by omega)
  refine⟨s,fg ?_,h20,hh⟩;unfold tY;rw[hw,aA (by omega) (by omega),V8]
 | k+1,m+1,s,hs,hm,h20,hh=>by
  have hw:Vx ((x3%2:Nat):Int)=((x3%2:Nat):Int):=aA (by omega) (by omega)
  by_cases c:(s.length:Int)<8+((x3%2:Nat):Int)
  have hB:tY n x3 l s=some (.inl (s++[l])):=by
   unfold tY;rw[hw,aA (by omega) (by omega),au c,s7 n hl,ai,bl (by simp; omega),aL]
  rw[eQ hB];exact Af n x3 hl hn k m (s++[l]) (by simp; omega) (by omega) (by simp; omega) (fun h hh'=>by
   rcases Tk.1 hh' with g|g
   exact hh h g
   rw[S6.1 g]; exact hl)
  refine⟨s,fg ?_,h20,hh⟩;unfold tY;rw[hw,aA (by omega) (by omega),av c]
def lI{P:WB I2}{G:WB Fc}(hc:Rb (P,G)){y:Fc}(hy:QU y)(j:Nat):LX (P,G.set j y):=by
 refine⟨Tv hc.1 (by decide),?_,fun f hf=>?_⟩
 show(G.set j y).length<=1000
 rw[T0]; exact Tv hc.2.1 (by decide)
 rcases List.mem_or_eq_of_mem_set hf with h|h
 have:=hc.2.2 f h;exact⟨by omega,by omega,fun h hh=>by have:=this.2.2 h hh; omega⟩
 rw[h]; exact hy
def jO{P:WB I2}{G:WB Fc}(hc:Rb (P,G)){a:WB Int}{b:Vo}(ha:a.length<=1000)(hb:b.length<=1000)(hx:∀x∈b,x.length<=1000)(j:Nat):LX (P,G.set j (a,b)):=lI hc (y:=(a,b)) ⟨ha,hb,hx⟩ j
def xa{c:WB I2×WB Fc}(h:Rb c):LX c:=⟨by have:=h.1; omega,by have:=h.2.1; omega,fun f hf=>by
 have:=h.2.2 f hf;exact⟨by omega,by omega,fun x hx=>by have:=this.2.2 x hx; omega⟩⟩
def F2(n:Nat)(x1 x2 x3:Nat)(x4 x5 x6:Int)(p:WB I2)(F:WB Fc)(h2:x2<256)(h3:x3<256)(hn:10000<n):∃c,DI n x1 x2 x3 x4 x5 x6 p F=some c/\LX c:=by
 unfold DI;rw[Je n p F (by omega),ai]
 have hb:=NN (p,F);generalize Pe (p,F)=c at *;obtain⟨P,G⟩:=c
 try dsimp only
 have hP:P.length<=125:=hb.1;have hG:G.length<=66:=hb.2.1;have w2:Vx ((x2:Nat):Int)=(x2:Int):=aA (by omega) (by omega)
 have w3:Vx ((x3:Nat):Int)=(x3:Int):=aA (by omega) (by omega)
 by_cases e1:(P.length:Int)=0
 rw[au e1,ai,fx]; exact⟨_,rfl,xa hb⟩
 rw[av e1,ai]
 by_cases e2:(G.length:Int)=0
 rw[au e2]; exact⟨_,rfl,xa hb⟩
 rw[av e2,eT e1,eT e2];simp only[w2,w3,iB];have hj:x2%G.length<G.length:=TY _ (by omega)
 have hi:x2%P.length<P.length:=TY _ (by omega)
 have hi3:x3%P.length<P.length:=TY _ (by omega)
 have hj3:x3%G.length<G.length:=TY _ (by omega)
 rw[al hj,aL];refine qD hj fun y hy _=>?_;obtain⟨o,h⟩:=y;have hy':=hb.2.2 _ hy;have ho:o.length<=42:=hy'.1;have hh:h.length<=10:=hy'.2.1;have hhh:∀x∈h,x.length<=42:=hy'.2.2;have hyF:QU (o,h):=⟨by show o.length<=1000; omega,by show h.length<=1000; omega,fun x hx=>by have:=hhh x hx; omega⟩
 try dsimp only
 refine vC (fun q=>LX (q.1,q.2.2.2)) ?_ (fun q hq=>?_)
 rotate_left
 obtain⟨a,b,c,d⟩:=q; exact⟨(a,d),rfl,hq⟩
 refine fJ (fun _=>?_) (fun _=>?_)
 
 rw[al hi,aL];refine qD hi fun y _ _=>?_;obtain⟨y1,y2⟩:=y;refine⟨_,rfl,?_⟩;have:=lI hb hyF (x2%G.length);exact⟨by show(List.set ..).length<=_; rw[T0]; omega,this.2⟩
 refine fJ (fun _=>?_) (fun _=>?_)
 ·rw[eT e1,al hi3,aL];refine qD hi3 fun y _ _=>?_;obtain⟨y1,y2⟩:=y
  try dsimp only
  rw[al hi,aL];refine qD hi fun z _ _=>?_;obtain⟨z1,z2⟩:=z;refine⟨_,rfl,?_⟩;have:=lI hb hyF (x2%G.length);exact⟨by show(List.set ..).length<=_; rw[T0]; omega,this.2⟩
 refine fJ (fun _=>?_) (fun _=>?_)
 refine iv (bl (by simp; omega)) ⟨_,rfl,?_⟩
 have:=lI hb hyF (x2%G.length);exact⟨by show List.length (_++_)<=_; simp; omega,this.2⟩
 refine fJ (fun _=>?_) (fun _=>?_)
 refine iv (S5 ⟨by omega,by omega,by omega⟩) (iv (S5 (by omega)) ⟨_,rfl,?_⟩)
 have:=lI hb hyF (x2%G.length);exact⟨by show(List.take ..).length<=_; rw[Th]; omega,this.2⟩
 refine fJ (fun _=>?_) (fun _=>?_)
 ·rw[Je n P G (by omega),ai]
  unfold Pe
  try dsimp only
  have hl:((G.take 66).map Mi).length=G.length:=by rw[To,Th]; omega
  rw[eT e2,al (by omega),aL]
  refine qD (by omega) fun z hz _=>?_
  obtain⟨z1,z2⟩:=z;refine iv (bl (by simp; omega)) ⟨_,rfl,?_⟩
  have h0:=xa hb;refine⟨h0.1,by show List.length (_++_)<=_; simp; omega,fun f hf=>?_⟩
  rcases Tk.1 hf with g|g
  exact h0.2.2 f g
  rw[S6.1 g];obtain⟨w,_,hw⟩:=TS.1 hz;have:=Fp w;rw[hw] at this;exact⟨by show z1.length<=1000; have:=this.1; dsimp only at this; omega,by show z2.length<=1000; have:=this.2.1; dsimp only at this; omega,fun x hx=>by have:=this.2.2 x hx; omega⟩
 refine fJ (fun _=>?_) (fun _=>?_)
 rw[eT e2,eT e2,ai,V9]
 refine vC (fun q=>q.length<=66/\∀f∈q,f∈G) ?_ (fun q hq=>⟨_,rfl,?_⟩)
 unfold RP;refine iv ?_ ⟨_,rfl,?_,fun f hf=>?_⟩
 rw[S5 (show 0<G.length by omega),S5 (show(0:Int)<=((x2%G.length:Nat):Int) by omega),S5 (show((x2%G.length:Nat):Int)<((x2%G.length+1:Nat):Int) by omega),S5 (show((x2%G.length+1:Nat):Int)<=(G.length:Int) by omega),bl (by omega)]; rfl
 rw[Te,Th,TP]; omega
 exact(Tk.1 hf).elim Uz UA
 have h0:=xa hb;exact⟨h0.1,by show q.length<=1000; omega,fun f hf=>h0.2.2 f (hq.2 f hf)⟩
 refine fJ (fun _=>?_) (fun _=>?_)
 refine fJ (fun c=>?_) (fun _=>⟨_,rfl,lI hb hyF _⟩);have c:=of_decide_eq_true c;have hk:x3%o.length<o.length:=TY _ (by omega)
 rw[eT (by omega),al hk,aL]
 refine qD hk fun z _ _=>⟨_,rfl,jO hb ?_ hyF.2.1 hyF.2.2 _⟩;rw[T0]; omega
 refine fJ (fun _=>?_) (fun _=>?_)
 obtain⟨r,hr,hl⟩:=yI n (l:=o) (by omega) (by omega)
 rw[hr,ai,ai];exact⟨_,rfl,jO hb (show r.length<=1000 by omega) hyF.2.1 hyF.2.2 _⟩
 refine fJ (fun _=>?_) (fun _=>?_)
 exact⟨_,rfl,jO hb hyF.1 (b:=[]) (T4 _) (fun _ hx=>by cases hx) _⟩
 refine fJ (fun _=>?_) (fun _=>?_)
 ·rw[eT e2,al hj3,aL];refine qD hj3 fun z hz _=>?_;obtain⟨z1,z2⟩:=z;have hz1:z1.length<=42:=(hb.2.2 _ hz).1
  try dsimp only
  rw[s7 n (by omega),ai,bl (by simp; omega),aL,ai]
  have hw:Vx (((h++[z1]).length:Int)-1)=(h.length:Int):=by
   rw[Te,List.length_singleton,aA (by omega) (by omega)]; omega
  rw[hw,al (by simp),aL,show(h++[z1])[((h.length:Nat):Int).toNat]? = some z1 by simp,ai]
  obtain⟨r,hr,hl⟩:=Gl n (l:=z1) (by omega) (by omega)
  rw[hr,ai,ai];refine⟨_,rfl,jO hb hyF.1 (by rw[T0,Te]; simp; omega) (fun x hx=>?_) _⟩
  rcases List.mem_or_eq_of_mem_set hx with g|g
  rcases Tk.1 g with g|g
  exact hyF.2.2 x g
  rw[S6.1 g]; omega
  rw[g]; omega
 refine fJ (fun _=>?_) (fun _=>?_)
 refine fJ (fun c=>?_) (fun _=>⟨_,rfl,lI hb hyF _⟩);have c:=of_decide_eq_true c;have hk:x3%o.length<o.length:=TY _ (by omega)
 rw[eT (by omega),eT (by omega),ai,V9]
 refine vC (fun q=>q.length<=42) ?_ (fun q hq=>⟨_,rfl,jO hb (show q.length<=1000 by omega) hyF.2.1 hyF.2.2 _⟩)
 unfold Nu;refine iv ?_ ⟨_,rfl,?_⟩
 rw[S5 (show 0<o.length by omega),S5 (show(0:Int)<=((x3%o.length:Nat):Int) by omega),S5 (show((x3%o.length:Nat):Int)<=((x3%o.length+1:Nat):Int) by omega),S5 (show((x3%o.length+1:Nat):Int)<=(o.length:Int) by omega),bl (by omega)]; rfl
 rw[Te,Th,TP]; omega
 refine fJ (fun _=>?_) (fun _=>?_)
 have hk:x3%(o.length+1)<o.length+1:=TY _ (by omega)
 rw[V9,eT (by omega),ai,eT e1]
 simp only[iB];refine vC (fun q=>q.length<=43) ?_ (fun q hq=>⟨_,rfl,jO hb (show q.length<=1000 by omega) hyF.2.1 hyF.2.2 _⟩)
 unfold OP;refine iv ?_ ⟨_,rfl,?_⟩
 rw[S5 (show(0:Int)<=((x3%(o.length+1):Nat):Int) by omega),S5 (show((x3%(o.length+1):Nat):Int)<=(o.length:Int) by omega),bl (by omega)]; rfl
 rw[Te,Te,Th,TP]; simp; omega
 refine fJ (fun _=>?_) (fun _=>?_)
 refine fJ (fun c=>?_) (fun _=>⟨_,rfl,lI hb hyF _⟩);have c:=of_decide_eq_true c;have hk:x3%o.length<o.length:=TY _ (by omega)
 refine iv (S5 (by omega)) (iv (S5 ⟨by omega,by omega,by omega⟩) ?_)
 rw[s7 n (by rw[Th,TP]; omega),ai]
 refine iv (S5 (by omega)) (iv (S5 ⟨by omega,by omega,by omega⟩) (iv (bl ?_) ⟨_,rfl,jO hb ?_ hyF.2.1 hyF.2.2 _⟩))
 rw[Te,Th,TP,Th,TP]; omega
 rw[Te,Th,TP,Th,TP]; omega
 obtain⟨r,hr,hl,hx⟩:=Af n x3 (l:=o) (by omega) (by omega) 10 n h (by omega) (by omega) (by omega) (fun x hx=>hyF.2.2 x hx)
 rw[hr,ai];exact⟨_,rfl,jO hb hyF.1 (show r.length<=1000 by omega) hx _⟩
def xW(n:Nat)(l:WB Nat)(k:Nat):∃r,K1 n l (k:Int)=some r/\True:=by
 unfold K1;refine fJ (fun _=>⟨_,rfl,trivial⟩) (fun c=>?_);have c:=of_decide_eq_false c;have hk:k%l.length<l.length:=TY _ (by omega)
 rw[eT c,iB,al hk,aL];exact qD hk fun x _ _=>⟨_,rfl,trivial⟩
def Ft(n:Nat){w:Nat}(hw:w<=5)(y:Int)(l8:WB Nat){l0:WB I2}(h0:l0.length<=1000)(hn:1000<n):∃r,bh (vD n (w:Int) y l8) n (l0,0,0)=some r/\r.length=l0.length+(w+1):=by
 refine dG (B:=vD n (w:Int) y l8) (len:=w+1) (fun i (s:WB I2×Int)=>(s.1,s.2,(i:Int))) (fun i s=>s.1.length=l0.length+i) (fun r=>r.length=l0.length+(w+1)) (fun i s hi hs=>.inl ?_) (fun s hs=>?_) (w+1) 0 (l0,0) n (by omega) (by omega) rfl
 ·obtain⟨l,x⟩:=s
  try dsimp only at hs ⊢
  obtain⟨r,hr,_⟩:=xW n l8 i;refine⟨(l++[(x,y)],Vx ((Vx (x+1))+(Int.tmod r 5))),?_,by simp; omega⟩
  unfold vD
  try dsimp only
  rw[V7,bl (by simp; omega),aL,hr,ai,V9]
 ·obtain⟨l,x⟩:=s;refine⟨l,?_,hs⟩;unfold vD
  try dsimp only
  rw[V8]
def FO(n:Nat){w h:Nat}(hw:w<=5)(hh:h<=5)(l8:WB Nat)(hn:1000<n):∃r,bh (vL n (h:Int) (w:Int) l8) n ([],0,0)=some r/\r.length=(h+1)*(w+1):=by
 refine dG (B:=vL n (h:Int) (w:Int) l8) (len:=h+1) (fun i (s:WB I2×Int)=>(s.1,s.2,(i:Int))) (fun i s=>s.1.length=i*(w+1)) (fun r=>r.length=(h+1)*(w+1)) (fun i s hi hs=>.inl ?_) (fun s hs=>?_) (h+1) 0 ([],0) n (by omega) (by omega) (by simp)
 ·obtain⟨l,y⟩:=s
  try dsimp only at hs ⊢
  have hb:i*(w+1)<=5*(w+1):=TO _ (by omega)
  obtain⟨r,hr,hl⟩:=Ft n hw y l8 (l0:=l) (by omega) hn
  obtain⟨r',hr',_⟩:=xW n l8 (7+i);refine⟨(r,Vx ((Vx (y+1))+(Int.tmod r' 5))),?_,by rw[Ul]; dsimp only; omega⟩
  unfold vL
  try dsimp only
  rw[V7,hr,ai,aA (x:=7+(i:Int)) (by omega) (by omega),show(7+(i:Int))=((7+i:Nat):Int) by omega,hr',ai,V9]
 ·obtain⟨l,y⟩:=s;refine⟨l,?_,hs⟩;unfold vL
  try dsimp only
  rw[V8]
def ur(k:Nat)(l:WB Fc):Prop:=l.length<=k/\∀f∈l,QU f
def kS{k j:Nat}{l m:WB Fc}(h:ur k l)(hm:ur j m):ur (k+j) (l++m):=⟨by rw[Te]; have:=h.1; have:=hm.1; omega,fun f hf=>(Tk.1 hf).elim (h.2 f) (hm.2 f)⟩
def ur.le{k j:Nat}{l:WB Fc}(h:ur k l)(hk:k<=j):ur j l:=⟨by have:=h.1; omega,h.2⟩
def G6{o:WB Int}(h:o.length<=1000):QU (o,[]):=⟨h,by simp,fun _ hx=>by cases hx⟩
def y8{o:WB Int}(h:o.length<=1000):ur 2 [(o,[])]:=⟨by simp,fun f hf=>by rw[S6.1 hf]; exact G6 h⟩
def Mj{o o':WB Int}(h:o.length<=1000)(h':o'.length<=1000):ur 2 [(o,[]),(o',[])]:=⟨by simp,fun f hf=>by
 rcases Tq.1 hf with e|hf
 rw[e]; exact G6 h
 rw[S6.1 hf]; exact G6 h'⟩
def A1{k:Nat}{l:WB Fc}(h:ur k l)(hk:k<=1000):lim l.length=true:=bl (by have:=h.1; omega)
def Fx(n:Nat){w v:Nat}(hw:w<=5)(hv:v<=5)(l3:WB Nat){k:Nat}(hk:k<=500){l0:WB Fc}(h0:ur k l0)(hn:1000<n):∃r,bh (rN n (w:Int) (v:Int) l3) n (l0,0)=some r/\ur (k+10) r:=by
 refine dG (B:=rN n (w:Int) (v:Int) l3) (len:=w) (fun i (s:WB Fc)=>(s,(i:Int))) (fun i s=>ur (k+2*i) s) (fun r=>ur (k+10) r) (fun i s hi hs=>.inl ?_) (fun s hs=>⟨s,?_,hs.le (by omega)⟩) w 0 l0 n (by omega) (by omega) h0
 ·have hvw:v*w<=5*5:=UJ hv hw;obtain⟨q,hq,_⟩:=xW n l3 (v*w+i);have hx:Vx ((Vx ((v:Int)*(w:Int)))+(i:Int))=((v*w+i:Nat):Int):=by
   rw[show((v:Int)*(w:Int))=((v*w:Nat):Int) from(Int.natCast_mul v w).symm,aA (x:=((v*w:Nat):Int)) (by omega) (by omega),aA (by omega) (by omega)]; omega
  have key:∀(s':WB Fc),ur (k+2*i+2) s'->ur (k+2*(i+1)) s':=fun s' h=>h.le (by omega)
  suffices hg:∃c,rN n (w:Int) (v:Int) l3 (s,(i:Int))=some c/\∃s',c=.inl (s',((i+1:Nat):Int))/\ur (k+2*i+2) s' by
   obtain⟨c,h1,s',h2,h3⟩:=hg;exact⟨s',by rw[h1,h2],key s' h3⟩
  unfold rN
  try dsimp only
  rw[V7]
  refine vC (fun s'=>ur (k+2*i+2) s') ?_ (fun s' hs'=>⟨_,rfl,s',by rw[V9],hs'⟩)
  rw[ai,hx,hq,ai];refine fJ (fun _=>?_) (fun _=>fJ (fun _=>fJ (fun _=>?_) (fun _=>?_)) (fun _=>?_))
  rw[ai,ai];exact iv (A1 (kS hs (Mj (by simp) (by simp))) (by omega)) ⟨_,rfl,kS hs (Mj (by simp) (by simp))⟩
  exact⟨_,rfl,hs.le (by omega)⟩
  rw[ai];exact iv (A1 (kS hs (y8 (by simp))) (by omega)) ⟨_,rfl,kS hs (y8 (by simp))⟩
  rw[ai];exact iv (A1 (kS hs (y8 (by simp))) (by omega)) ⟨_,rfl,kS hs (y8 (by simp))⟩
 ·unfold rN
  try dsimp only
  rw[V8]
def FM(n:Nat){w h:Nat}(hw:w<=5)(hh:h<=5)(l3:WB Nat)(hn:1000<n):∃r,bh (vt n (h:Int) (w:Int) l3) n ([],0)=some r/\ur 50 r:=by
 refine dG (B:=vt n (h:Int) (w:Int) l3) (len:=h) (fun i (s:WB Fc)=>(s,(i:Int))) (fun i s=>ur (10*i) s) (fun r=>ur 50 r) (fun i s hi hs=>.inl ?_) (fun s hs=>⟨s,?_,hs.le (by omega)⟩) h 0 [] n (by omega) (by omega) ⟨by simp,fun _ hx=>by cases hx⟩
 ·obtain⟨r,hr,hb⟩:=Fx n hw (v:=i) (by omega) l3 (k:=10*i) (by omega) hs hn
  refine⟨r,?_,hb.le (by omega)⟩
  unfold vt
  try dsimp only
  rw[V7,hr,ai,V9]
 ·unfold vt
  try dsimp only
  rw[V8]
def NI(n:Nat)(x1 x2:Nat)(l3 l8:WB Nat)(b:Bool)(hn:1000<n):∃c,Pk n x1 x2 l3 l8 b=some c/\LX c:=by
 have hwh:∃w h:Nat,w<=5/\h<=5/\(br b (some ((3:Int),(3:Int))) (some (Vx (1+(Vx ((x1%4:Nat):Int))),Vx (1+(Vx ((x2%3:Nat):Int))))))=some ((w:Int),(h:Int)):=by
  cases b
  refine⟨1+x1%4,1+x2%3,by omega,by omega,?_⟩
  rw[fm,aA (x:=((x1%4:Nat):Int)) (by omega) (by omega),aA (x:=((x2%3:Nat):Int)) (by omega) (by omega),aA (by omega) (by omega),aA (by omega) (by omega)]
  rfl
  exact⟨3,3,by omega,by omega,rfl⟩
 obtain⟨w,h,hw,hh,e⟩:=hwh;unfold Pk;rw[e,ai]
 try dsimp only
 obtain⟨P,hP,hPl⟩:=FO n hw hh l8 hn;have hPb:P.length<=1000:=by
  have:(h+1)*(w+1)<=6*6:=UJ (by omega) (by omega)
  omega
 rw[hP,ai];cases b
 rw[fm];obtain⟨r,hr,hb⟩:=FM n hw hh l3 hn;rw[hr,ai];exact⟨_,rfl,hPb,by have:=hb.1; show r.length<=1000; omega,hb.2⟩
 rw[fx];have h1:ur 1 ([([0,1,2,3,7,11,15,14,13,12,8,4],[[5,9,10,6]])]:WB Fc):=⟨by simp,fun f hf=>by
  rw[S6.1 hf];exact⟨by simp,by simp,fun x hx=>by rw[S6.1 hx]; simp⟩⟩
 refine iv (bl (by simp)) (vC (fun l=>ur 5 l) ?_ (fun l hl=>⟨_,rfl,hPb,by have:=hl.1; show l.length<=1000; omega,hl.2⟩))
 obtain⟨q,hq,_⟩:=xW n l3 0;rw[show K1 n l3 0=some q from hq,ai]
 refine fJ (fun _=>iv (bl (by simp)) ⟨_,rfl,?_⟩) (fun _=>⟨_,rfl,h1.le (by omega)⟩)
 exact(kS h1 (y8 (o:=[5,6,10,9]) (by simp))).le (by omega)
def OX(n:Nat)(x1 x2:Nat)(l3 l8:WB Nat)(b:Bool)(x14 x15 x16:Nat)(x17 x18 x19:Int)(x20 x21 x22:Nat)(x23 x24 x25:Int)(h15:x15<256)(h16:x16<256)(h21:x21<256)(h22:x22<256)(hn:10000<n) :
  ∃c d e,QV n x1 x2 l3 l8 b x14 x15 x16 x17 x18 x19 x20 x21 x22 x23 x24 x25=some (c.1,c.2,d.1,d.2,e.1,e.2)/\LX c/\LX d/\LX e/\Pk n x1 x2 l3 l8 b=some c:=by
 obtain⟨c,h1,b1⟩:=NI n x1 x2 l3 l8 b (by omega)
 obtain⟨d,h2,b2⟩:=F2 n x14 x15 x16 x17 x18 x19 c.1 c.2 h15 h16 hn;obtain⟨e,h3,b3⟩:=F2 n x20 x21 x22 x23 x24 x25 d.1 d.2 h21 h22 hn;refine⟨c,d,e,?_,b1,b2,b3,h1⟩;unfold QV;rw[h1,ai]
 try dsimp only
 rw[h2,ai]
 try dsimp only
 rw[h3,ai]
def Ls(n:Nat)(pts:WB I2)(F:WB Fc)(hn:99999<n):∃r,Po n pts F=some r/\Qn n pts F=some r/\(r.1<=0->Fcs pts F/\Mt pts F=r):=by
 have no:∀(k v:Int),0<k->((k,v).1<=0->Fcs pts F/\Mt pts F=(k,v)):=fun k v h e=>by dsimp only at e; omega
 unfold Po Qn Re Rg
 by_cases g1:(pts.length:Int)<3
 simp only[au g1,ai,fx]; exact⟨_,rfl,rfl,no _ _ (by decide)⟩
 by_cases g2:120<(pts.length:Int)
 simp only[av g1,au g2,ai,fx]; exact⟨_,rfl,rfl,no _ _ (by decide)⟩
 by_cases g3:(F.length:Int)<1
 simp only[av g1,av g2,au g3,ai,fx]; exact⟨_,rfl,rfl,no _ _ (by decide)⟩
 by_cases g4:64<(F.length:Int)
 simp only[av g1,av g2,av g3,S5 g4,ai,fx]; exact⟨_,rfl,rfl,no _ _ (by decide)⟩
 simp only[av g1,av g2,av g3,S7 g4,ai,fm];rw[Fl n (by omega) (by omega),Iq n (by omega) (by omega)]
 cases hf:bI (jI pts) (.inr ()) pts.length 0 with
 | inl v =>
  have:=Cc v hf;simp only[ai,au this]; exact⟨_,rfl,rfl,no _ _ (by decide)⟩
 | inr u =>
 simp only[ai,av (show ¬(0:Int)<=-1 by decide)]
 rw[Gj n (by omega) (by omega),GF n (by omega) (by omega)]
 cases ht:bI (lT pts) (.inr ()) pts.length 0 with
 | inl v=>simp only[ai]; exact⟨_,rfl,rfl,no _ _ (by decide)⟩
 | inr u =>
 simp only[ai];have hb:=K5 (by omega) hf
 rw[FT n (by omega) (by omega),Gu n (by omega) (by omega)]
 cases h4:bI (fI (okF pts.length) F) (.inr ()) F.length 0 with
 | inl v =>
  have:=qt h4;simp only[ai,au this]; exact⟨_,rfl,rfl,no _ _ (by decide)⟩
 | inr u =>
 have ho:O9 pts F:=oR h4;simp only[ai,av (show ¬(0:Int)<=-1 by decide)]
 rw[IY n hb ho (by omega) (by omega),G0 n hb ho (by omega) (by omega)]
 cases h5:bI (fI (Nn pts) F) (.inr ()) F.length 0 with
 | inl v =>
  have:=qt h5;simp only[ai,au this]; exact⟨_,rfl,rfl,no _ _ (by decide)⟩
 | inr u =>
 have hva:=oR h5;have ha:=fun f hf=>Qw (hva f hf);simp only[ai,av (show ¬(0:Int)<=-1 by decide)]
 rw[Hl n hb ho ha (by omega) (by omega),HN n hb ho ha (by omega) (by omega)]
 cases h6:bI (fI (Pb pts) F) (.inr ()) F.length 0 with
 | inl v =>
  have:=qt h6;simp only[ai,au this]; exact⟨_,rfl,rfl,no _ _ (by decide)⟩
 | inr u =>
 have htu:=oR h6;have hc:Fcs pts F:=⟨⟨by omega,by omega⟩,⟨by omega,by omega⟩,hb,LW ht,ho,hva,htu⟩
 simp only[ai,av (show ¬(0:Int)<=-1 by decide)]
 rw[OI n hc hn,OV n hc hn];exact⟨Mt pts F,rfl,rfl,fun _=>⟨hc,rfl⟩⟩
section
variable{pts:WB I2}{F:WB Fc}(n:Nat)
end
section
variable{pts:WB I2}{F:WB Fc}(n:Nat)
end
section
variable{pts:WB I2}{F:WB Fc}(n:Nat)
end
def vh(n:Nat)(pts:WB I2)(F:WB Fc)(hn:99999<n):∃r,Mh n pts F=some r/\O8 n pts F=some r/\(r=0->Fcs pts F/\(Mt pts F).1<=0):=by
 obtain⟨r,h1,h2,h3⟩:=Ls n pts F hn;obtain⟨k,v⟩:=r;unfold Mh O8;rw[h1,h2,ai]
 by_cases c:0<k
 exact⟨150,by dsimp only; rw[au c],by dsimp only; rw[au c],fun h=>by omega⟩
 refine⟨0,by dsimp only; rw[av c],by dsimp only; rw[av c],fun _=>?_⟩
 obtain⟨g1,g2⟩:=h3 (by dsimp only; omega)
 exact⟨g1,by rw[g2]; dsimp only; omega⟩
section
variable{pts:WB I2}{F:WB Fc}(n:Nat)
end
def rQ{α β:Type}[DecidableEq α]{xs:WB (α×β)}(hn:(xs.map Prod.fst).Nodup){k:α}{v:β}:cR xs k=some v↔(k,v)∈xs:=by
 have key:∀(xs:WB (α×β)) (i:Nat),(xs.map Prod.fst).Nodup->((cT k xs i).map (·.2)=some v↔(k,v)∈xs):=by
  intro xs
  induction xs with
  | nil=>intro i _; simp[cT]
  | cons e xs ih =>
   intro i hn;rw[Ub,Ue] at hn;unfold cT
   by_cases h:k=e.1
   rw[SU h,Tq];constructor
   intro g;have:e.2=v:=SX g;exact .inl (by rw[h,<-this])
   rintro(g|g)
   show some e.2=some v
   rw[<-g]
   exact Tj (TS.2 ⟨(k,v),g,h⟩) hn.1
   rw[SS h,ih (i+1) hn.2,Tq];exact⟨.inr,fun g=>g.elim (fun g=>Tj (TB Prod.fst g) h) id⟩
 exact key xs 0 hn
def Jf{α β:Type}[DecidableEq α]{xs:WB (α×β)}{k:α}:cR xs k≠none↔k∈xs.map Prod.fst:=by
 unfold cR;rcases oD k xs 0 with⟨h1,h2⟩|⟨j,v,h1,h2⟩
 rw[h1]; exact⟨fun h=>Tj rfl h,fun h=>Tj h h2⟩
 rw[h1];refine⟨fun _=>?_,fun _ h=>by cases h⟩
 have:(xs.map Prod.fst)[j]? = some k:=by rw[TT]; exact h2
 exact Td this
def oJ{α β:Type}[DecidableEq α]{xs:WB (α×β)}(hn:(xs.map Prod.fst).Nodup)(k:α)(v:β):((gS xs k v).map Prod.fst).Nodup:=by
 rw[p9]
 by_cases g:k∈xs.map Prod.fst
 rw[SU g]; exact hn
 rw[SS g];refine List.nodup_append.2 ⟨hn,by simp,fun u hu v hv=>?_⟩
 rw[S6] at hv;intro e; rw[e,hv] at hu; exact g hu
def fc(E:WB Ed)(a b:Int):Int:=E.foldl (fun x e=>if e.1=a/\e.2.1=b then e.2.2.1 else x) (-1)
def wX(E:WB Ed)(e:Ed)(a b:Int):fc (E++[e]) a b=if e.1=a/\e.2.1=b then e.2.2.1 else fc E a b:=by unfold fc; rw[List.foldl_append]; rfl
def Qx(N:Nat)(e:Ed):Prop:=(0<=e.1/\e.1<N)/\(0<=e.2.1/\e.2.1<N)/\e.1≠e.2.1/\0<=e.2.2.1/\e.2.2.1<64
def CS{α:Type}{P:WB α->Prop}(h0:P [])(h1:∀l a,P l->P (l++[a]))(l:WB α):P l:=by
 have:∀l:WB α,P l.reverse:=fun l=>by
  induction l with
  | nil=>exact h0
  | cons a l ih=>rw[List.reverse_cons]; exact h1 _ _ ih
 have:=this l.reverse;rwa[List.reverse_reverse] at this
def Cv{N:Nat}(a b:Int):∀E:WB Ed,(∀e∈E,Qx N e)->-1<=fc E a b/\fc E a b<64:=by
 refine CS (fun _=>⟨(by show(-1:Int)<=-1; decide),(by show(-1:Int)<64; decide)⟩) fun E e ih h=>?_
 rw[wX];have h1:=ih fun x hx=>h x (TA _ hx);have h2:=h e (TF _ (S6.2 rfl))
 split
 have:=h2.2.2.2; omega
 exact h1
def JL(m:WB ((Int×Int)×dy))(e:Ed):WB ((Int×Int)×dy) :=
 gS m (mi e.1 e.2.1,ma e.1 e.2.1) (((cR m (mi e.1 e.2.1,ma e.1 e.2.1)).getD (mi e.1 e.2.1,ma e.1 e.2.1,-1,-1)).1,((cR m (mi e.1 e.2.1,ma e.1 e.2.1)).getD (mi e.1 e.2.1,ma e.1 e.2.1,-1,-1)).2.1,
  (if e.1=mi e.1 e.2.1 then e.2.2.1 else((cR m (mi e.1 e.2.1,ma e.1 e.2.1)).getD (mi e.1 e.2.1,ma e.1 e.2.1,-1,-1)).2.2.1),(if e.1=mi e.1 e.2.1 then((cR m (mi e.1 e.2.1,ma e.1 e.2.1)).getD (mi e.1 e.2.1,ma e.1 e.2.1,-1,-1)).2.2.2 else e.2.2.1))
structure Wm(N:Nat)(E:WB Ed)(m:WB ((Int×Int)×dy)):Prop where
 nd:(m.map Prod.fst).Nodup
 rg:∀p∈m.map Prod.fst,0<=p.1/\p.1<p.2/\p.2<N
 get:∀i k:Int,i<k->cR m (i,k)=if 0<=fc E i k\/0<=fc E k i then some (i,k,fc E i k,fc E k i) else none
def Q8{N:Nat}:∀E:WB Ed,(∀e∈E,Qx N e)->Wm N E (E.foldl JL []):=by
 refine CS (fun _=>⟨List.nodup_nil,fun _ h=>(by cases h),fun i k _=>(by rw[SS (show ¬(0<=fc [] i k\/0<=fc [] k i) from(by decide:¬((0:Int)<=-1\/(0:Int)<=-1)))]; rfl)⟩) fun E e ih h=>?_
 have hE:=fun x hx=>h x (TA _ hx);obtain⟨nd,rg,get⟩:=ih hE;obtain⟨⟨a0,a1⟩,⟨b0,b1⟩,ne,f0,f1⟩:=h e (TF _ (S6.2 rfl));rw[List.foldl_append,List.foldl_cons,List.foldl_nil];generalize E.foldl JL []=m at *;obtain⟨a,b,f,r⟩:=e
 dsimp only at *
 have hk:0<=mi a b/\mi a b<ma a b/\ma a b<N:=by rw[eK,fA]; omega
 refine⟨oJ nd _ _,fun p hp=>?_,fun i k hik=>?_⟩
 unfold JL at hp;rw[p9] at hp
 split at hp
 exact rg p hp
 rcases Tk.1 hp with hp|hp
 exact rg p hp
 rw[S6.1 hp]; exact hk
 have g0:=get (mi a b) (ma a b) hk.2.1;have c1:=(Cv (mi a b) (ma a b) E hE).1;have c2:=(Cv (ma a b) (mi a b) E hE).1;unfold JL
 dsimp only
 rw[gO];have hx:(cR m (mi a b,ma a b)).getD (mi a b,ma a b,-1,-1)=(mi a b,ma a b,fc E (mi a b) (ma a b),fc E (ma a b) (mi a b)):=by
  rw[g0]
  by_cases c:0<=fc E (mi a b) (ma a b)\/0<=fc E (ma a b) (mi a b)
  rw[SU c]; rfl
  rw[SS c]
  show(mi a b,ma a b,(-1:Int),(-1:Int))=_
  rw[show fc E (mi a b) (ma a b) = -1 by omega,show fc E (ma a b) (mi a b) = -1 by omega]
 rw[hx,wX,wX]
 dsimp only
 rcases Int.lt_or_gt_of_ne ne with hab|hab
 have e1:mi a b=a:=by rw[eK]; omega
 have e2:ma a b=b:=by rw[fA]; omega
 rw[e1,e2,SU rfl,SU rfl]
 by_cases c:(i,k)=(a,b)
 obtain⟨rfl,rfl⟩:=Prod.mk.inj c;rw[SU c,SU (show i=i/\k=k from⟨rfl,rfl⟩),SS (show ¬(i=k/\k=i) by omega),SU (.inl f0)]
 rw[SS c,SS (fun g:a=i/\b=k=>c (by rw[g.1,g.2])),SS (show ¬(a=k/\b=i) by omega)]
 exact get i k hik
 have e1:mi a b=b:=by rw[eK]; omega
 have e2:ma a b=a:=by rw[fA]; omega
 rw[e1,e2,SS (show ¬a=b by omega),SS (show ¬a=b by omega)]
 by_cases c:(i,k)=(b,a)
 obtain⟨rfl,rfl⟩:=Prod.mk.inj c;rw[SU c,SS (show ¬(k=i/\i=k) by omega),SU (show k=k/\i=i from⟨rfl,rfl⟩),SU (.inr f0)]
 rw[SS c,SS (show ¬(a=i/\b=k) by omega),SS (fun g:a=k/\b=i=>c (by rw[g.1,g.2]))]
 exact get i k hik
def xP{σ:Type}{B:(Int×σ)->WA ((Int×σ)⊕σ)}{len:Nat}{g:Nat->WB Ed}{f:σ->Ed->σ}{s0:σ}(hB:∀(i:Nat) s,i<len->B ((i:Int),s)=some (.inl (((i+1:Nat):Int),(g i).foldl f s)))
  (hE:∀s,B ((len:Int),s)=some (.inr s)) {n:Nat} (hn:len<n):bh B n (0,s0)=some ((acc g len).foldl f s0):=by
 obtain⟨r,h1,h2⟩:=dG (B:=B) (len:=len) (fun i (s:σ)=>((i:Int),s)) (fun i s=>s=(acc g i).foldl f s0) (fun r=>r=(acc g len).foldl f s0) (fun i s hi hs=>.inl ⟨_,hB i s hi,by rw[hs,acc,List.foldl_append]⟩) (fun s hs=>⟨_,hE s,hs⟩) len 0 s0 n (by omega) hn rfl
 rw[<-h2]; exact h1
section
variable{pts:WB I2}{F:WB Fc}(n:Nat)
def G9{l:WB Int}{f r:Nat}{m:WB ((Int×Int)×dy)}(hl:l.length<=40)(hn:1000<n):bh (uY n l (f:Int)) n (0,m)=some ((rE l f r).foldl JL m):=by
 refine xP (B:=uY n l (f:Int)) (len:=l.length) (g:=fun i=>[gr l f r i]) (fun i s hi=>?_) (fun s=>?_) (by omega)
 ·obtain⟨e1,e2⟩:=pB hi;have hi2:(i+1)%l.length<l.length:=TY _ (by omega)
  unfold uY
  try dsimp only
  rw[V7]
  simp only[al hi,aL,e1,ai,ak (show i<4611686018427387904 by omega)]
  rw[eT (by omega)]
  simp only[iB,al hi2,aL,e2,ai];rw[List.foldl_cons,List.foldl_nil];unfold JL gr
  dsimp only
  generalize l.getD i 0=a;generalize l.getD ((i+1)%l.length) 0=b;cases hm:cR s (mi a b,ma a b) with
  | none =>
   simp only[Option.getD_none,Option.isSome_none,TC,fx,ai]
   by_cases c:a=mi a b
   rw[au c,SU c,SU c]; rfl
   rw[av c,SS c,SS c]; rfl
  | some x =>
   obtain⟨x1,x2,x3,x4⟩:=x;simp only[Vb,Option.isSome_some,TG,fm,ai]
   by_cases c:a=mi a b
   rw[au c,SU c,SU c]; rfl
   rw[av c,SS c,SS c]; rfl
 ·unfold uY
  try dsimp only
  rw[V8]
def Hr{rs:Vo}{f:Nat}{m:WB ((Int×Int)×dy)}(h9:rs.length<=9)(h40:∀r,(rs.getD r []).length<=40)(hn:1000<n):bh (vl n rs (f:Int)) n (0,m)=some ((fE rs f).foldl JL m):=by
 refine xP (B:=vl n rs (f:Int)) (len:=rs.length) (g:=fun r=>rE (rs.getD r []) f r) (fun i s hi=>?_) (fun s=>?_) (by omega)
 ·have hx:rs[i]? = some (rs.getD i []):=by rw[SZ,SR hi]; rfl
  unfold vl
  try dsimp only
  rw[V7,al hi,aL,aR hx,ai,G9 n (r:=i) (h40 i) hn,ai,V9]
 ·unfold vl
  try dsimp only
  rw[V8]
def KY(hv:Fcs pts F)(hn:1000<n):Hh n pts F=some ((sE F).foldl JL []):=by
 have hfl:=hv.flen;unfold Hh;rw[ai];have:bh (vH n F) n (0,[])=some ((sE F).foldl JL []):=by
  refine xP (B:=vH n F) (len:=F.length) (g:=fun f=>fE (aw F f) f) (fun i s hi=>?_) (fun s=>?_) (by omega)
  ·obtain⟨h9,h40⟩:=eV hv i;unfold vH
   try dsimp only
   rw[V7,al hi,aL,aR (fO hi),ai]
   try dsimp only
   rw[kK n hv hn,ai,Hr n h9 h40 hn,ai,V9]
  ·unfold vH
   try dsimp only
   rw[V8]
 rw[this]; rfl
def Ji(hv:Fcs pts F):∀e∈sE F,Qx pts.length e:=fun e he=>by
 have h1:=xY hv (S0 _) e he;obtain⟨f,r,k,hf,_,_,rfl⟩:=FP (S0 _) e he;have hfl:=hv.flen;refine⟨h1.1,h1.2.1,fun c=>h1.2.2 (by rw[c]),?_,?_⟩
 show(0:Int)<=(f:Int); omega
 show(f:Int)<64; omega
def lD(E:WB Ed)(i k:Nat):WB dy:=if 0<=fc E i k\/0<=fc E k i then[((i:Int),(k:Int),fc E i k,fc E k i)] else[]
def B8(E:WB Ed)(N:Nat):WB dy:=acc (fun i=>acc (fun j=>lD E i (i+1+j)) (N-(i+1))) N
def tS{E:WB Ed}{i k:Nat}:(lD E i k).length<=1:=by unfold lD; split<;>simp
def km{E:WB Ed}{i k:Nat}{x:dy}:x∈lD E i k↔(0<=fc E i k\/0<=fc E k i)/\x=((i:Int),(k:Int),fc E i k,fc E k i):=by
 unfold lD
 split
 rename_i h; rw[S6]; exact⟨fun e=>⟨h,e⟩,fun e=>e.2⟩
 rename_i h; exact⟨fun e=>(by cases e),fun e=>Tj e.1 h⟩
def xd{α:Type}{g:Nat->WB α}{x:α}:∀{k i:Nat},i<k->x∈g i->x∈acc g k
 | k+1,i,hi,h=>by
  rw[acc,Tk]
  by_cases c:i=k
  exact .inr (by rw[<-c]; exact h)
  exact .inl (xd (by omega) h)
def xU{E:WB Ed}{N:Nat}{x:dy}:x∈B8 E N↔∃i k:Nat,i<k/\k<N/\(0<=fc E i k\/0<=fc E k i)/\x=((i:Int),(k:Int),fc E i k,fc E k i):=by
 unfold B8;constructor
 intro h;obtain⟨i,hi,h⟩:=fQ h;obtain⟨j,hj,h⟩:=fQ h;exact⟨i,i+1+j,by omega,by omega,km.1 h⟩
 rintro⟨i,k,h1,h2,h3⟩;refine xd (i:=i) (by omega) (xd (i:=k-(i+1)) (by omega) ?_)
 rw[show i+1+(k-(i+1))=k by omega]
 exact km.2 h3
def Qk(x y:dy):Prop:=x.1<y.1\/x.1=y.1/\x.2.1<y.2.1
def ug{α:Type}{R:α->α->Prop}{g:Nat->WB α}(h1:∀i,(g i).Pairwise R)(h2:∀i j,i<j->∀x∈g i,∀y∈g j,R x y):∀k,(acc g k).Pairwise R
 | 0=>.nil
 | k+1=>by
  rw[acc,Uj];refine⟨ug h1 h2 k,h1 k,fun x hx y hy=>?_⟩;obtain⟨i,hi,h⟩:=fQ hx;exact h2 i k hi x h y hy
def Bc(E:WB Ed)(N:Nat):(B8 E N).Pairwise Qk:=by
 refine ug (fun i=>ug (fun j=>?_) (fun j j' hj x hx y hy=>?_) _) (fun i i' hi x hx y hy=>?_) N
 unfold lD; split
 exact List.pairwise_singleton _ _
 exact .nil
 rw[(km.1 hx).2,(km.1 hy).2];exact .inr ⟨rfl,by show((i+1+j:Nat):Int)<((i+1+j':Nat):Int); omega⟩
 obtain⟨j,_,hx⟩:=fQ hx;obtain⟨j',_,hy⟩:=fQ hy;rw[(km.1 hx).2,(km.1 hy).2];exact .inl (by show(i:Int)<(i':Int); omega)
def yl(E:WB Ed){N:Nat}(hN:N<=120):(B8 E N).length<=120*120:=by
 have h1:=dD (g:=fun i=>acc (fun j=>lD E i (i+1+j)) (N-(i+1))) (b:=120) (k:=N) fun i _=>by
  have:=dD (g:=fun j=>lD E i (i+1+j)) (b:=1) (k:=N-(i+1)) fun j _=>tS;omega
 have h2:N*120<=120*120:=TO _ hN;unfold B8; omega
def ne_of_lt{x y:dy}(h:Qk x y):x≠y:=fun e=>by subst e; unfold Qk at h; omega
def Es(E:WB Ed)(N:Nat):(B8 E N).Nodup:=(Bc E N).imp ne_of_lt
def Db{N:Nat}{E:WB Ed}{m:WB ((Int×Int)×dy)}(h:Wm N E m){p:(Int×Int)×dy}(hp:p∈m):p.2=(p.1.1,p.1.2,fc E p.1.1 p.1.2,fc E p.1.2 p.1.1)/\(0<=fc E p.1.1 p.1.2\/0<=fc E p.1.2 p.1.1)/\0<=p.1.1/\p.1.1<p.1.2/\p.1.2<N:=by
 have h1:=h.rg p.1 (TS.2 ⟨p,hp,rfl⟩);have h2:=(rQ h.nd (k:=p.1) (v:=p.2)).2 hp;have h3:=h.get p.1.1 p.1.2 h1.2.1;rw[show cR m (p.1.1,p.1.2)=some p.2 from h2] at h3
 split at h3
 rename_i c;exact⟨SX h3,c,h1⟩
 cases h3
def DW{N:Nat}{E:WB Ed}{m:WB ((Int×Int)×dy)}(h:Wm N E m):(m.map Prod.snd).Perm (B8 E N):=by
 have hnd:(m.map Prod.snd).Nodup:=by
  have e:(m.map Prod.snd).map (fun x:dy=>(x.1,x.2.1))=m.map Prod.fst:=by
   rw[List.map_map];refine List.map_congr_left fun p hp=>?_
   show(p.2.1,p.2.2.1)=p.1
   rw[(Db h hp).1]
  have:=h.nd;rw[<-e] at this;exact List.Pairwise.of_map _ (fun a b hab c=>hab (by rw[c])) this
 refine(List.perm_ext_iff_of_nodup hnd (Es E N)).2 fun x=>?_;rw[xU,TS];constructor
 rintro⟨p,hp,rfl⟩;obtain⟨h1,h2,h3,h4,h5⟩:=Db h hp;refine⟨p.1.1.toNat,p.1.2.toNat,by omega,by omega,?_⟩
 rw[TH h3,TH (by omega)]
 exact⟨h2,h1⟩
 rintro⟨i,k,h1,h2,h3,rfl⟩;refine⟨(((i:Int),(k:Int)),_),(rQ h.nd).1 (?_:cR m ((i:Int),(k:Int))=some ((i:Int),(k:Int),fc E i k,fc E k i)),rfl⟩;rw[h.get _ _ (by omega),SU h3]
def II(hv:Fcs pts F):IQ n pts F=some (B8 (sE F) pts.length):=by
 have hw:=Q8 (sE F) (Ji hv);have hN:=hv.len;unfold IQ;rw[KY 100000 hv (by decide),ai]
 generalize(sE F).foldl JL []=m at *;have hp:=DW hw;have hlen:(m.map Prod.snd).length<=120*120:=by rw[hp.length_eq]; exact yl _ hN.2
 have ho:p7 (B8 (sE F) pts.length)=true:=by
  unfold p7;rw[SY];refine⟨Tc.2 fun x hx=>?_,S5 ?_⟩
  obtain⟨i,k,h1,h2,_,rfl⟩:=xU.1 hx;simp only[SY,S9];omega
  refine List.Pairwise.map _ (fun x y hxy e=>?_) (Bc (sE F) pts.length);have e1:x.1=y.1:=(Prod.mk.inj e).1;have e2:x.2.1=y.2.1:=(Prod.mk.inj e).2;unfold Qk at hxy;omega
 have ho':=vm hp ho;rw[show(m.map fun x=>x.2)=m.map Prod.snd from rfl,ho',bl (by rw[To] at hlen; omega)]
 show some _=some _
 refine TB some ?_;rw[uZ ho',vZ hp ho];exact List.mergeSort_of_pairwise ((Bc _ _).imp fun{x y} h=>by unfold Qk at h; unfold eh; exact S5 (by omega))
end
section
variable{pts:WB I2}{F:WB Fc}(n:Nat)
def Cd{N a b:Nat}(ha:a<N)(hb:b<N):a*N+b<N*N:=by
 have h1:(a+1)*N<=N*N:=TO _ ha;rw[Ul] at h1;omega
def N4{N a b c d:Nat}(hb:b<N)(hd:d<N)(h:a*N+b=c*N+d):a=c/\b=d:=by
 have h1:a=c:=by
  rcases Nat.lt_trichotomy a c with g|g|g
  have:(a+1)*N<=c*N:=TO _ g;rw[Ul] at this; omega
  exact g
  have:(c+1)*N<=a*N:=TO _ g;rw[Ul] at this; omega
 subst h1;exact⟨rfl,by omega⟩
def B7{N a b:Nat}(hN:N<=120)(ha:a<N)(hb:b<N):Vx ((Vx ((a:Int)*(N:Int)))+(b:Int))=((a*N+b:Nat):Int):=by
 have h1:a*N<=120*120:=UJ (by omega) hN
 rw[show((a:Int)*(N:Int))=((a*N:Nat):Int) from(Int.natCast_mul a N).symm,aA (x:=((a*N:Nat):Int)) (by omega) (by omega),aA (by omega) (by omega)]
 omega
def Rk(N:Nat)(E:WB Ed)(t:WB Int):Prop:=t.length=N*N/\∀a b:Nat,a<N->b<N->t[a*N+b]? = some (fc E a b+1)
def Ht{E:WB Ed}(hN:pts.length<=120)(hE:∀e∈E,Qx pts.length e)(hl:E.length<50000)(hn:99999<n):∃t,bh (u7 n E pts) n (List.replicate (pts.length*pts.length) 0,pts.length*pts.length,0)=some (t,pts.length*pts.length)/\Rk pts.length E t:=by
 have:=dG (B:=u7 n E pts) (len:=E.length) (fun i (s:WB Int)=>(s,pts.length*pts.length,(i:Int))) (fun i s=>Rk pts.length (E.take i) s) (fun r=>r.2=pts.length*pts.length/\Rk pts.length E r.1) (fun i s hi hs=>.inl ?_) (fun s hs=>?_) E.length 0 (List.replicate (pts.length*pts.length) 0) n (by omega) (by omega) ?_
 obtain⟨⟨r1,r2⟩,h1,h2,h3⟩:=this
 dsimp only at h2 h3
 rw[h2] at h1;exact⟨r1,h1,h3⟩
 ·have hx:=SR hi;have hO:=hE _ (Tx hi);have htk:E.take (i+1)=E.take i++[E[i]]:=by rw[Ux,hx]; rfl
  generalize E[i]=e at *;obtain⟨⟨a0,a1⟩,⟨b0,b1⟩,ne,f0,f1⟩:=hO;obtain⟨a,b,f,r⟩:=e
  dsimp only at a0 a1 b0 b1 ne f0 f1
  obtain⟨a,rfl⟩:∃k:Nat,a=(k:Int):=⟨a.toNat,by omega⟩
  obtain⟨b,rfl⟩:∃k:Nat,b=(k:Int):=⟨b.toNat,by omega⟩
  have ha:a<pts.length:=by omega
  have hb:b<pts.length:=by omega
  have hix:=Cd ha hb;refine⟨s.set (a*pts.length+b) (f+1),?_,?_,fun c d hc hd=>?_⟩
  ·unfold u7
   try dsimp only
   rw[V7]
   simp only[al hi,aL,aR hx,ai];rw[B7 hN ha hb];simp only[al hix,aL,aR (hs.2 a b ha hb),ai];rw[Ti,aA (x:=f+1) (by omega) (by omega),V9]
  rw[T0]; exact hs.1
  rw[htk,wX,Us]
  dsimp only
  by_cases c1:a*pts.length+b=c*pts.length+d
  obtain⟨rfl,rfl⟩:=N4 hb hd c1;rw[SU rfl,SU (by rw[hs.1]; exact hix),SU ⟨rfl,rfl⟩]
  rw[SS c1,SS (fun g=>c1 (by have h1:=g.1; have h2:=g.2; rw[Int.ofNat_inj.1 h1,Int.ofNat_inj.1 h2]))]
  exact hs.2 c d hc hd
 ·refine⟨(s,pts.length*pts.length),?_,rfl,by rw[Vc] at hs; exact hs⟩
  unfold u7
  try dsimp only
  rw[V8]
 refine⟨List.length_replicate,fun a b ha hb=>?_⟩;rw[U2,SU (Cd ha hb)]
 rfl
def Hu{E:WB Ed}{t:WB Int}(hN:pts.length<=120)(hE:∀e∈E,Qx pts.length e)(ht:Rk pts.length E t){i:Nat}(hi:i<pts.length){d:WB dy}(hd:d.length<=20000)(hn:1000<n) :
  bh (vJ n pts (i:Int) (pts.length*pts.length) t) n (d,((i+1:Nat):Int))=some (d++acc (fun j=>lD E i (i+1+j)) (pts.length-(i+1))):=by
 have key:=dG (B:=vJ n pts (i:Int) (pts.length*pts.length) t) (len:=pts.length-(i+1)) (fun j (s:WB dy)=>(s,((i+1+j:Nat):Int))) (fun j s=>s=d++acc (fun j=>lD E i (i+1+j)) j) (fun r=>r=d++acc (fun j=>lD E i (i+1+j)) (pts.length-(i+1))) (fun j s hj hs=>.inl ?_) (fun s hs=>⟨s,?_,hs⟩) (pts.length-(i+1)) 0 d n (by omega) (by omega) (by rw[acc,TI])
 obtain⟨r,h1,h2⟩:=key;subst h2; exact h1
 ·have hk:i+1+j<pts.length:=by omega
  have hlen:=dD (g:=fun j=>lD E i (i+1+j)) (b:=1) (k:=j) fun j _=>tS;refine⟨_,?_,show s++lD E i (i+1+j)=_ by rw[hs,acc,TU]⟩
  have e1:=aR (ht.2 i (i+1+j) hi hk);have e2:=aR (ht.2 (i+1+j) i hk hi);have b1:=Cv (i:Int) ((i+1+j:Nat):Int) E hE;have b2:=Cv ((i+1+j:Nat):Int) (i:Int) E hE;unfold vJ
  try dsimp only
  rw[V7,ai,B7 hN hi hk]
  simp only[al (Cd hi hk),aL,e1,ai];rw[B7 hN hk hi];simp only[al (Cd hk hi),aL,e2,ai];unfold lD;generalize fc E (i:Int) ((i+1+j:Nat):Int)=x at *;generalize fc E ((i+1+j:Nat):Int) (i:Int)=y at *;rw[aA (x:=x+1+(y+1)) (by omega) (by omega),aA (x:=x+1-1) (by omega) (by omega),aA (x:=y+1-1) (by omega) (by omega),V9,show x+1-1=x by omega,show y+1-1=y by omega]
  by_cases c:0<=x\/0<=y
  rw[V7,SU c,bl (by rw[hs]; simp; omega),aL]; rfl
  rw[V8,SS c,TI]; rfl
 ·unfold vJ
  try dsimp only
  rw[V8]
def Iz(hv:Fcs pts F)(hn:99999<n):Pd n pts F=some (B8 (sE F) pts.length):=by
 have hN:=hv.len;have hNN:pts.length*pts.length<=120*120:=UJ hN.2 hN.2;have hw:Vx ((pts.length:Int)*(pts.length:Int))=((pts.length*pts.length:Nat):Int):=by
  rw[show((pts.length:Int)*(pts.length:Int))=((pts.length*pts.length:Nat):Int) from(Int.natCast_mul _ _).symm,aA (by omega) (by omega)]
 have hE:=Ji hv;obtain⟨t,h1,ht⟩:=Ht n hN.2 hE (tp hv) hn;unfold Pd;rw[DA n hv (by omega),ai,hw,Ti,eT (by omega),bl (by omega),aL,h1,ai]
 try dsimp only
 have:bh (vw n pts (pts.length*pts.length) t) n ([],0)=some (B8 (sE F) pts.length):=by
  have key:=dG (B:=vw n pts (pts.length*pts.length) t) (len:=pts.length) (fun i (s:WB dy)=>(s,(i:Int))) (fun i s=>s=acc (fun i=>acc (fun j=>lD (sE F) i (i+1+j)) (pts.length-(i+1))) i) (fun r=>r=B8 (sE F) pts.length) (fun i s hi hs=>.inl ?_) (fun s hs=>⟨s,?_,hs⟩) pts.length 0 [] n (by omega) (by omega) rfl
  obtain⟨r,g1,g2⟩:=key;subst g2; exact g1
  ·have hlen:=dD (g:=fun i=>acc (fun j=>lD (sE F) i (i+1+j)) (pts.length-(i+1))) (b:=120) (k:=i) fun i _=>by
    have:=dD (g:=fun j=>lD (sE F) i (i+1+j)) (b:=1) (k:=pts.length-(i+1)) fun j _=>tS;omega
   have hb:i*120<=120*120:=TO _ (by omega)
   refine⟨_,?_,show s++acc (fun j=>lD (sE F) i (i+1+j)) (pts.length-(i+1))=_ by rw[hs,acc]⟩
   unfold vw
   try dsimp only
   rw[V7,V9,Hu n hN.2 hE ht hi (by rw[hs]; omega) (by omega),ai]
  ·unfold vw
   try dsimp only
   rw[V8]
 rw[this,ai]
end
end Go.Proofs.YtmndpgfbkicndaaGreat
namespace Uf
inductive Cn(W:Vn):Int->Int->Prop
 | refl (x:Int):Cn W x x
 | step {x y z:Int} (h:Cn W x y) (e:(y,z)∈W\/(z,y)∈W):Cn W x z
section
variable{W:Vn}{x y z:Int}
def Cn.trans(h:Cn W x y)(h':Cn W y z):Cn W x z:=by
 induction h' with
 | refl=>exact h
 | step _ e ih=>exact ih.step e
def Cn.one(e:(x,y)∈W\/(y,x)∈W):Cn W x y:=(Cn.refl x).step e
def Cn.symm(h:Cn W x y):Cn W y x:=by
 induction h with
 | refl=>exact .refl _
 | step _ e ih=>exact(Cn.one e.symm).trans ih
def Cn.mono{W':Vn}(hW:∀e∈W,e∈W')(h:Cn W x y):Cn W' x y:=by
 induction h with
 | refl=>exact .refl _
 | step _ e ih=>exact ih.step (e.imp (hW _) (hW _))
def HO{a b:Int}:Cn (W++[(a,b)]) x y↔Cn W x y\/(Cn W x a/\Cn W b y)\/(Cn W x b/\Cn W a y):=by
 constructor
 ·intro h
  induction h with
  | refl=>exact .inl (.refl _)
  | step _ e ih =>
   rename_i y z _;have hz:Cn W y z\/(y=a/\z=b)\/(y=b/\z=a):=by
    rcases e with e|e
    rcases Tk.1 e with e|e
    exact .inl (.one (.inl e))
    have:=S6.1 e;exact .inr (.inl ⟨TB Prod.fst this,TB Prod.snd this⟩)
    rcases Tk.1 e with e|e
    exact .inl (.one (.inr e))
    have:=S6.1 e;exact .inr (.inr ⟨TB Prod.snd this,TB Prod.fst this⟩)
   rcases hz with hz|⟨rfl,rfl⟩|⟨rfl,rfl⟩
   rcases ih with h|⟨h1,h2⟩|⟨h1,h2⟩
   exact .inl (h.trans hz)
   exact .inr (.inl ⟨h1,h2.trans hz⟩)
   exact .inr (.inr ⟨h1,h2.trans hz⟩)
   rcases ih with h|⟨h1,h2⟩|⟨h1,h2⟩
   exact .inr (.inl ⟨h,.refl _⟩)
   exact .inr (.inl ⟨h1,.refl _⟩)
   exact .inl h1
   rcases ih with h|⟨h1,h2⟩|⟨h1,h2⟩
   exact .inr (.inr ⟨h,.refl _⟩)
   exact .inl h1
   exact .inr (.inr ⟨h1,.refl _⟩)
 have hm:∀{u v},Cn W u v->Cn (W++[(a,b)]) u v:=fun h=>h.mono fun e he=>TA _ he;have hab:Cn (W++[(a,b)]) a b:=.one (.inl (TF _ (S6.2 rfl)));rintro(h|⟨h1,h2⟩|⟨h1,h2⟩)
 exact hm h
 exact((hm h1).trans hab).trans (hm h2)
 exact((hm h1).trans hab.symm).trans (hm h2)
def Cn.Sh{a:Int}(ha:∀e∈W,e.1≠a/\e.2≠a)(h:Cn W a y):y=a:=by
 induction h with
 | refl=>rfl
 | step _ e ih =>
  subst ih;rcases e with e|e
  exact Tj rfl (ha _ e).1
  exact Tj rfl (ha _ e).2
def Cn.used{U:Int->Prop}(hW:∀e∈W,U e.1/\U e.2)(h:Cn W x y)(hx:U x):U y:=by
 induction h with
 | refl=>exact hx
 | step _ e _=>exact e.elim (fun e=>(hW _ e).2) (fun e=>(hW _ e).1)
end
inductive Chn(g:Int->WA Int):Int->Int->Nat->Prop
 | root {x:Int} {k:Nat} (h:g x=some x):Chn g x x k
 | step {x y r:Int} {k:Nat} (h:g x=some y) (hne:y≠x) (t:Chn g y r k):Chn g x r (k+1)
section
variable{g g':Int->WA Int}{x r r':Int}{k k':Nat}
def Chn.mono(h:Chn g x r k):∀{k'},k<=k'->Chn g x r k':=by
 induction h with
 | root h=>exact fun _=>.root h
 | step h hne _ ih =>
  intro k' hk;obtain⟨j,rfl⟩:∃j,k'=j+1:=⟨k'-1,by omega⟩
  exact .step h hne (ih (by omega))
def Chn.Mw(h:Chn g x r k):∀{r' k'},Chn g x r' k'->r=r':=by
 induction h with
 | root h =>
  intro r' k' h';cases h' with
  | root=>rfl
  | step h2 hne _=>rw[h] at h2; exact Tj (SX h2).symm hne
 | step h hne _ ih =>
  intro r' k' h';cases h' with
  | root h2=>rw[h] at h2; exact Tj (SX h2) hne
  | step h2 _ t=>rw[h] at h2; cases h2; exact ih t
def Chn.at_root(h:Chn g x r k):g r=some r:=by
 induction h with
 | root h=>exact h
 | step _ _ _ ih=>exact ih
def Chn.key(h:Chn g x r k):g x≠none:=by
 cases h with
 | root h=>rw[h]; exact fun c=>by cases c
 | step h _ _=>rw[h]; exact fun c=>by cases c
def Chn.upd{ra rb:Int}(hra:g ra=some ra)(hrb:g rb=some rb)(ne:ra≠rb)(hg:∀z,g' z=if z=ra then some rb else g z)(h:Chn g x r k):Chn g' x (if r=ra then rb else r) (k+1):=by
 induction h with
 | root h =>
  rename_i x k
  by_cases c:x=ra
  rw[SU c,c];exact .step (by rw[hg,SU rfl]) (Ne.symm ne) (.root (by rw[hg,SS (Ne.symm ne),hrb]))
  rw[SS c];exact .root (by rw[hg,SS c,h])
 | step h hne _ ih =>
  rename_i x y r k _;have c:x≠ra:=fun e=>by
   rw[e,hra] at h;exact hne (by rw[e]; exact(SX h).symm)
  exact .step (by rw[hg,SS c,h]) hne ih
def Chn.new{a:Int}(ha:g a=none)(hg:∀z,g' z=if z=a then some a else g z)(h:Chn g x r k):Chn g' x r k:=by
 induction h with
 | root h=>exact .root (by rw[hg,SS (fun e=>by rw[e,ha] at h; cases h),h])
 | step h hne _ ih=>exact .step (by rw[hg,SS (fun e=>by rw[e,ha] at h; cases h),h]) hne ih
end
structure Ufs(U:Int->Prop)(W:Vn)(g:Int->WA Int)(K:Nat):Prop where
 key:∀x,g x≠none↔U x
 ends:∀ e∈W, U e.1 /\ U e.2
 ch:∀x,U x->∃r,Chn g x r K
 eq:∀{x y rx ry},Chn g x rx K->Chn g y ry K->(rx=ry↔Cn W x y)
section
variable{U:Int->Prop}{W:Vn}{g g':Int->WA Int}{K:Nat}
def Ufs.start:Ufs (fun _=>False) [] (fun _=>none) 0 where
 key _:=⟨fun h=>h rfl,fun h=>h.elim⟩
 ends _ h := by cases h
 ch _ h:=h.elim
 eq h _:=Tj rfl h.key
def Ufs.put(h:Ufs U W g K){a:Int}(ha:g a=none)(hg:∀z,g' z=if z=a then some a else g z):Ufs (fun x=>U x\/x=a) W g' K:=by
 have hU:¬U a:=fun c=>(h.key a).2 c ha;have haW:∀e∈W,e.1≠a/\e.2≠a:=fun e he=>⟨fun c=>hU (c ▸(h.ends e he).1),fun c=>hU (c ▸(h.ends e he).2)⟩;have hroot:Chn g' a a K:=.root (by rw[hg,SU rfl])
 have back:∀{x r},Chn g' x r K->x≠a->Chn g x r K:=fun{x r} hx hne=>by
  have hk:=hx.key;rw[hg,SS hne] at hk;obtain⟨r',h1⟩:=h.ch x ((h.key x).1 hk);have:=(h1.new ha hg).Mw hx;rw[<-this]; exact h1
 refine⟨fun x=>?_,fun e he=>⟨.inl (h.ends e he).1,.inl (h.ends e he).2⟩,fun x hx=>?_,fun{x y rx ry} hx hy=>?_⟩
 by_cases c:x=a
 rw[hg,SU c]; exact⟨fun _=>.inr c,fun _ e=>(by cases e)⟩
 rw[hg,SS c,h.key]; exact⟨.inl,fun e=>e.elim id (fun e=>Tj e c)⟩
 by_cases c:x=a
 exact⟨a,by rw[c]; exact hroot⟩
 obtain⟨r,h1⟩:=h.ch x (hx.elim id fun e=>Tj e c);exact⟨r,h1.new ha hg⟩
 by_cases cx:x=a
 have ex:rx=a:=by rw[cx] at hx; exact hx.Mw hroot
 by_cases cy:y=a
 have ey:ry=a:=by rw[cy] at hy; exact hy.Mw hroot
 rw[ex,ey,cx,cy]; exact⟨fun _=>.refl _,fun _=>rfl⟩
 have hy':=back hy cy;rw[ex,cx];constructor
 intro e; exact Tj hy'.at_root (by rw[<-e,ha]; exact fun c=>by cases c)
 intro e; exact Tj (e.Sh haW) cy
 have hx':=back hx cx
 by_cases cy:y=a
 have ey:ry=a:=by rw[cy] at hy; exact hy.Mw hroot
 rw[ey,cy];constructor
 intro e; exact Tj hx'.at_root (by rw[e,ha]; exact fun c=>by cases c)
 intro e; exact Tj (e.symm.Sh haW) cx
 exact h.eq hx' (back hy cy)
def Ufs.join(h:Ufs U W g K){a b ra rb:Int}(ha:Chn g a ra K)(hb:Chn g b rb K)(hg:∀z,g' z=if z=ra then some rb else g z):Ufs U (W++[(a,b)]) g' (K+1):=by
 have hra:=ha.at_root;have hrb:=hb.at_root;have hends:∀e∈W++[(a,b)],U e.1/\U e.2:=fun e he=>by
  rcases Tk.1 he with he|he
  exact h.ends e he
  rw[S6.1 he];exact⟨(h.key _).1 ha.key,(h.key _).1 hb.key⟩
 by_cases ne:ra=rb
 have e:g'=g:=funext fun z=>by
  rw[hg]
  by_cases c:z=ra
  rw[SU c,c,hra,ne]
  rw[SS c]
 subst e;have hab:Cn W a b:=(h.eq ha hb).1 ne;refine⟨h.key,hends,fun x hx=>?_,fun{x y rx ry} hx hy=>?_⟩
 obtain⟨r,h1⟩:=h.ch x hx;exact⟨r,h1.mono (by omega)⟩
 obtain⟨r1,g1⟩:=h.ch x ((h.key x).1 hx.key);obtain⟨r2,g2⟩:=h.ch y ((h.key y).1 hy.key);rw[<-g1.Mw hx,<-g2.Mw hy,h.eq g1 g2,HO];exact⟨.inl,fun e=>e.elim id fun e=>e.elim (fun e=>(e.1.trans hab).trans e.2) (fun e=>(e.1.trans hab.symm).trans e.2)⟩
 refine⟨fun x=>?_,hends,fun x hx=>?_,fun{x y rx ry} hx hy=>?_⟩
 rw[hg,<-h.key]
 by_cases c:x=ra
 rw[SU c,c,hra]; exact⟨fun _ e=>(by cases e),fun _ e=>(by cases e)⟩
 rw[SS c]
 obtain⟨r,h1⟩:=h.ch x hx;exact⟨_,h1.upd hra hrb ne hg⟩
 have k1:U x:=by
  have:=hx.key;rw[hg] at this
  by_cases c:x=ra
  exact(h.key x).1 (by rw[c,hra]; exact fun e=>by cases e)
  rw[SS c] at this; exact(h.key x).1 this
 have k2:U y:=by
  have:=hy.key;rw[hg] at this
  by_cases c:y=ra
  exact(h.key y).1 (by rw[c,hra]; exact fun e=>by cases e)
  rw[SS c] at this; exact(h.key y).1 this
 obtain⟨r1,g1⟩:=h.ch x k1;obtain⟨r2,g2⟩:=h.ch y k2;rw[<-(g1.upd hra hrb ne hg).Mw hx,<-(g2.upd hra hrb ne hg).Mw hy,HO,<-h.eq g1 g2,<-h.eq g1 ha,<-h.eq hb g2,<-h.eq g1 hb,<-h.eq ha g2];constructor
 intro e
 by_cases c1:r1=ra
 rw[SU c1] at e
 by_cases c2:r2=ra
 exact .inl (by rw[c1,c2])
 rw[SS c2] at e; exact .inr (.inl ⟨c1,e⟩)
 rw[SS c1] at e
 by_cases c2:r2=ra
 rw[SU c2] at e; exact .inr (.inr ⟨e,c2.symm⟩)
 rw[SS c2] at e; exact .inl e
 rintro(e|⟨e1,e2⟩|⟨e1,e2⟩)
 rw[e]
 rw[SU e1,<-e2,SS (Ne.symm ne)]
 rw[e1,SS (Ne.symm ne),<-e2,SU rfl]
end
def cW(c:Int->Int)(e:Int×Int):Int->Int:=fun z=>if z=e.1\/z=e.2 then min (c e.1) (c e.2) else c z
def JJ(W:Vn)(c:Int->Int):Int->Int:=W.foldl cW c
def k5(W:Vn):Nat->(Int->Int)->(Int->Int)
 | 0,c=>c
 | k+1,c=>JJ W (k5 W k c)
def wL(n:Nat)(W:Vn)(c:Int->Int):Prop:=∀i:Int,0<=i->i<n->0<=c i/\c i<=i/\Cn W i (c i)
def St(n:Nat)(W:Vn)(c:Int->Int)(i:Int):Prop:=∀j:Int,0<=j->j<n->Cn W i j->c i<=j
section
variable{n:Nat}{W:Vn}{c:Int->Int}
def za(c:Int->Int)(e:Int×Int)(z:Int):cW c e z<=c z:=by
 unfold cW
 split
 rename_i h;rcases h with h|h<;>rw[h]<;>omega
 exact Int.le_refl _
def ng:∀(l:Vn) (c:Int->Int) (z:Int),l.foldl cW c z<=c z
 | [],_,_=>Int.le_refl _
 | e::l,c,z=>Int.le_trans (ng l (cW c e) z) (za c e z)
def wL.step(h:wL n W c){e:Int×Int}(he:e∈W)(hr:(0<=e.1/\e.1<n)/\(0<=e.2/\e.2<n)):wL n W (cW c e):=by
 intro i h0 hi;have h1:=h e.1 hr.1.1 hr.1.2;have h2:=h e.2 hr.2.1 hr.2.2;have hc:Cn W e.1 e.2:=.one (.inl he);have hle:=za c e i;have hi':=h i h0 hi;unfold cW at hle ⊢
 split
 rename_i hz;rw[SU hz] at hle;refine⟨by omega,by omega,?_⟩
 rcases Int.le_total (c e.1) (c e.2) with hm|hm
 rw[Int.min_eq_left hm];rcases hz with rfl|rfl
 exact h1.2.2
 exact hc.symm.trans h1.2.2
 rw[Int.min_eq_right hm];rcases hz with rfl|rfl
 exact hc.trans h2.2.2
 exact h2.2.2
 exact hi'
def wL.fold(hr:∀e∈W,(0<=e.1/\e.1<n)/\(0<=e.2/\e.2<n)):∀(l:Vn) {c:Int->Int},(∀e∈l,e∈W)->wL n W c->wL n W (l.foldl cW c)
 | [],_,_,h=>h
 | e::l,_,hl,h=>wL.fold hr l (fun x hx=>hl x (Tn _ hx)) (h.step (hl e (TE ..)) (hr e (hl e (TE ..))))
def wL.k5(hr:∀e∈W,(0<=e.1/\e.1<n)/\(0<=e.2/\e.2<n))(h:wL n W c):∀k,wL n W (k5 W k c)
 | 0=>h
 | k+1=>wL.fold hr W (fun _ h=>h) (wL.k5 hr h k)
def St.le{c':Int->Int}{i:Int}(h:St n W c i)(hc:c' i<=c i):St n W c' i:=fun j h0 hj hij=>Int.le_trans hc (h j h0 hj hij)
def Dl{e:Int×Int}(he:e∈W):(St n W c e.1->St n W (JJ W c) e.2)/\(St n W c e.2->St n W (JJ W c) e.1):=by
 obtain⟨l1,l2,hl⟩:=List.append_of_mem he;have hc:Cn W e.1 e.2:=.one (.inl he);have hw:JJ W c=l2.foldl cW (cW (l1.foldl cW c) e):=by
  unfold JJ;generalize W=V at hl;subst hl;rw[List.foldl_append,List.foldl_cons]
 have k1:=ng l1 c;constructor
 intro h j h0 hj hij;have a1:=h j h0 hj (hc.trans hij);have a2:=k1 e.1;rw[hw];have a3:=ng l2 (cW (l1.foldl cW c) e) e.2;have a4:cW (l1.foldl cW c) e e.2=min (l1.foldl cW c e.1) (l1.foldl cW c e.2):=by unfold cW; rw[SU (.inr rfl)]
 omega
 intro h j h0 hj hij;have a1:=h j h0 hj (hc.symm.trans hij);have a2:=k1 e.2;rw[hw];have a3:=ng l2 (cW (l1.foldl cW c) e) e.1;have a4:cW (l1.foldl cW c) e e.1=min (l1.foldl cW c e.1) (l1.foldl cW c e.2):=by unfold cW; rw[SU (.inl rfl)]
 omega
def LQ(h:wL n W c):∀(k:Nat) (i:Int),i.toNat<=k->0<=i->i<n->∃j:Int,0<=j/\j<n/\Cn W i j/\St n W c j:=by
 intro k
 induction k with
 | zero =>
  intro i hk h0 hi;refine⟨i,h0,hi,.refl _,fun j hj0 _ _=>?_⟩;have:=(h i h0 hi).2.1;omega
 | succ k ih =>
  intro i hk h0 hi
  by_cases hs:St n W c i
  exact⟨i,h0,hi,.refl _,hs⟩
  have:∃j:Int,0<=j/\j<n/\Cn W i j/\j<c i:=by
   refine Classical.byContradiction fun hc=>hs fun j h1 h2 h3=>?_;refine Classical.byContradiction fun h4=>hc ⟨j,h1,h2,h3,by omega⟩
  obtain⟨j,h1,h2,h3,h4⟩:=this;have:=(h i h0 hi).2.1;obtain⟨j',g1,g2,g3,g4⟩:=ih j (by omega) h1 h2
  exact⟨j',g1,g2,h3.trans g3,g4⟩
def Hf{j i:Int}(h:Cn W j i)(hj:St n W c j):St n W c i\/∃e∈W,(St n W c e.1/\¬St n W c e.2)\/(St n W c e.2/\¬St n W c e.1):=by
 induction h with
 | refl=>exact .inl hj
 | step _ e ih =>
  rename_i y z _;rcases ih with ih|ih
  by_cases hz:St n W c z
  exact .inl hz
  rcases e with e|e
  exact .inr ⟨_,e,.inl ⟨ih,hz⟩⟩
  exact .inr ⟨_,e,.inr ⟨ih,hz⟩⟩
  exact .inr ih
def wg{α:Type}{p q:α->Bool}:∀{l:WB α},(∀x∈l,p x=true->q x=true)->(∃x∈l,q x=true/\p x=false)->l.countP p+1<=l.countP q
 | [],_,h=>by obtain⟨_,h,_⟩:=h; cases h
 | a::l,h1,h2=>by
  have hle:∀{l:WB α},(∀x∈l,p x=true->q x=true)->l.countP p<=l.countP q:=fun{l} hl=>by
   induction l with
   | nil=>exact S0 _
   | cons b l ih =>
    have:=ih fun x hx=>hl x (Tn _ hx);have hb:=hl b (TE ..);rw[List.countP_cons,List.countP_cons];cases hp:p b
    simp; omega
    rw[hb hp]; simp; omega
  obtain⟨x,hx,hq,hp⟩:=h2;rw[List.countP_cons,List.countP_cons];rcases Tq.1 hx with rfl|hx
  have:=hle fun y hy=>h1 y (Tn _ hy);rw[hq,hp]; simp; omega
  have:=wg (fun y hy=>h1 y (Tn _ hy)) ⟨x,hx,hq,hp⟩;have ha:=h1 a (TE ..);cases hpa:p a
  cases q a<;>simp<;>omega
  rw[ha hpa]; simp; omega
open Classical in
noncomputable def JZ (n:Nat) (W:Vn) (c:Int->Int) (k:Nat):Bool:=decide (St n W c (k:Int))
def mZ{k:Nat}:JZ n W c k=true↔St n W c (k:Int):=by unfold JZ; exact @decide_eq_true_iff _ (Classical.propDecidable _)
def Ca{k:Nat}:JZ n W c k=false↔¬St n W c (k:Int):=by rw[<-mZ,Bool.not_eq_true]
open Classical in
def IB(hr:∀e∈W,(0<=e.1/\e.1<n)/\(0<=e.2/\e.2<n))(h:wL n W c)(hu:∃i:Nat,i<n/\¬St n W c (i:Int)):(List.range n).countP (JZ n W c)+1<=(List.range n).countP (JZ n W (JJ W c)):=by
 obtain⟨i,hi,hs⟩:=hu;obtain⟨j,j0,hj,hij,hst⟩:=LQ h i (i:Int) (by omega) (by omega) (by omega)
 have keep:∀k,St n W c k->St n W (JJ W c) k:=fun k hk=>hk.le (ng W c k);refine wg (fun k _ hk=>mZ.2 (keep _ (mZ.1 hk))) ?_;rcases Hf hij.symm hst with h1|⟨e,he,h1|h1⟩
 exact Tj h1 hs
 obtain⟨b0,b1⟩:=(hr e he).2;refine⟨e.2.toNat,Ua.2 (by omega),?_,?_⟩
 rw[mZ,TH b0]; exact(Dl he).1 h1.1
 rw[Ca,TH b0]; exact h1.2
 obtain⟨b0,b1⟩:=(hr e he).1;refine⟨e.1.toNat,Ua.2 (by omega),?_,?_⟩
 rw[mZ,TH b0]; exact(Dl he).2 h1.1
 rw[Ca,TH b0]; exact h1.2
def Ao(hr:∀e∈W,(0<=e.1/\e.1<n)/\(0<=e.2/\e.2<n))(h:wL n W c):∀k,(∀i:Nat,i<n->St n W (k5 W k c) (i:Int))\/k<=(List.range n).countP (JZ n W (k5 W k c))
 | 0=>.inr (T4 _)
 | k+1=>by
  by_cases hu:∃i:Nat,i<n/\¬St n W (k5 W k c) (i:Int)
  rcases Ao hr h k with g|g
  obtain⟨i,hi,hs⟩:=hu; exact Tj (g i hi) hs
  have:=IB hr (h.k5 hr k) hu;exact .inr (by show k+1<=(List.range n).countP (JZ n W (JJ W (k5 W k c))); omega)
  refine .inl fun i hi=>?_;have:St n W (k5 W k c) (i:Int):=Classical.byContradiction fun c=>hu ⟨i,hi,c⟩;exact this.le (ng W _ _)
def OU(hr:∀e∈W,(0<=e.1/\e.1<n)/\(0<=e.2/\e.2<n))(h:wL n W c):∀i:Int,0<=i->i<n->St n W (k5 W n c) i:=by
 intro i h0 hi;have key:∀i:Nat,i<n->St n W (k5 W n c) (i:Int):=by
  rcases Ao hr h n with g|g
  exact g
  have h1:=List.countP_le_length (p:=JZ n W (k5 W n c)) (l:=List.range n);rw[List.length_range] at h1;have h2:(List.range n).countP (JZ n W (k5 W n c))=(List.range n).length:=by rw[List.length_range]; omega
  intro i hi;exact mZ.1 (List.countP_eq_length.1 h2 i (Ua.2 hi))
 have:=key i.toNat (by omega)
 rwa[TH h0] at this
def MO(h:wL n W c)(hs:∀i:Int,0<=i->i<n->St n W c i){i j:Int}(hi:0<=i/\i<n)(hj:0<=j/\j<n)(hij:Cn W i j):c i=c j:=by
 have h1:=h i hi.1 hi.2;have h2:=h j hj.1 hj.2;have a:=hs i hi.1 hi.2 (c j) h2.1 (by omega) (hij.trans h2.2.2)
 have b:=hs j hj.1 hj.2 (c i) h1.1 (by omega) (hij.symm.trans h1.2.2)
 omega
end
def pR{α:Type}[DecidableEq α]:∀{l m:WB α},l.Nodup->(∀a∈l,a∈m)->l.length<=m.length
 | [],_,_,_=>T4 _
 | a::l,m,hl,hm=>by
  have ha:=hm a (TE ..);have hl':=Ue.1 hl;have:=pR (m:=m.erase a) hl'.2 fun b hb=>by
   have hne:b≠a:=fun e=>hl'.1 (e▸hb);exact(List.mem_erase_of_ne hne).2 (hm b (Tn _ hb))
  rw[List.length_erase_of_mem ha] at this;have:=List.length_pos_of_mem ha;rw[TJ]; omega
open Classical in
def Jp{A B:WB Int}(P:Int->Int->Prop)(hB:B.Nodup)(h:∀i∈B,∃r∈A,P i r)(hi:∀i∈B,∀i'∈B,∀r∈A,P i r->P i' r->i=i'):B.length<=A.length:=by
 have:∃f:Int->Int,∀i∈B,f i∈A/\P i (f i):=by
  refine⟨fun i=>if h:∃r∈A,P i r then Classical.choose h else 0,fun i hi=>?_⟩
  have:=h i hi
  dsimp only
  split
  rename_i hx;exact T3 hx
  rename_i hx; exact Tj this hx
 obtain⟨f,hf⟩:=this;have hn:∀{l:WB Int},l.Nodup->(∀x∈l,x∈B)->(l.map f).Nodup:=fun{l} hl hs=>by
  induction l with
  | nil=>exact List.nodup_nil
  | cons a l ih =>
   have hl':=Ue.1 hl;rw[Ub,Ue];refine⟨fun hc=>?_,ih hl'.2 fun x hx=>hs x (Tn _ hx)⟩;obtain⟨b,hb,e⟩:=TS.1 hc;have hbB:=hs b (Tn _ hb);have haB:=hs a (TE ..);have:=hi b hbB a haB (f b) (hf b hbB).1 (hf b hbB).2 (by rw[e]; exact(hf a haB).2)
   exact hl'.1 (this▸hb)
 have:=pR (hn hB fun _ h=>h) (m:=A) fun a ha=>by
  obtain⟨b,hb,e⟩:=TS.1 ha;rw[<-e]; exact(hf b hb).1
 rwa[To] at this
def parts_eq{n:Nat}{U:Int->Prop}{W:Vn}{g:Int->WA Int}{K:Nat}(h:Ufs U W g K)(hU:∀x,U x->0<=x/\x<n){c:Int->Int}(hl:wL n W c)(hs:∀i:Int,0<=i->i<n->St n W c i)
  {A B:WB Int} (hA:A.Nodup) (hB:B.Nodup) (mA:∀r,r∈A↔g r=some r) (mB:∀i,i∈B↔U i/\c i=i):A.length=B.length:=by
 have uA:∀r∈A,U r:=fun r hr=>(h.key r).1 (by rw[(mA r).1 hr]; exact fun e=>by cases e)
 have k1:A.length<=B.length:=by
  refine Jp (fun r i=>c r=i) hA (fun r hr=>?_) (fun r hr r' hr' i _ e1 e2=>?_)
  have hu:=uA r hr;have hx:=hU r hu;have h1:=hl r hx.1 hx.2;refine⟨c r,(mB _).2 ⟨h1.2.2.used h.ends hu,?_⟩,rfl⟩;exact(MO hl hs hx ⟨h1.1,by omega⟩ h1.2.2).symm
  have hx:=hU r (uA r hr);have hx':=hU r' (uA r' hr');have h1:=(hl r hx.1 hx.2).2.2;have h2:=(hl r' hx'.1 hx'.2).2.2;rw[e1] at h1;rw[e2] at h2;exact(h.eq (.root ((mA r).1 hr)) (.root ((mA r').1 hr'))).2 (h1.trans h2.symm)
 have k2:B.length<=A.length:=by
  refine Jp (fun i r=>Chn g i r K) hB (fun i hi=>?_) (fun i hi i' hi' r _ e1 e2=>?_)
  obtain⟨hu,_⟩:=(mB i).1 hi;obtain⟨r,hr⟩:=h.ch i hu;exact⟨r,(mA r).2 hr.at_root,hr⟩
  obtain⟨hu,c1⟩:=(mB i).1 hi;obtain⟨hu',c2⟩:=(mB i').1 hi';have:=MO hl hs (hU i hu) (hU i' hu') ((h.eq e1 e2).1 rfl);omega
 omega
end Uf
namespace Go.Proofs.YtmndpgfbkicndaaGreat
section
open Go Go.Ab Go.Ab.W
set_option maxRecDepth 100000
def Jy:F7 100000=some true:=by kernel_rfl
end
section
open Go Go.Ab Go.Ab.W Go.Ab.B Jd Uf
def Ff(n:Nat){l:Vn}{x r:Int}{k:Nat}(h:Chn (cR l) x r k):∀{f:Nat},k<f->JI n l f () x=some r:=by
 induction h with
 | root h =>
  intro f hf;obtain⟨f,rfl⟩:∃j,f=j+1:=⟨f-1,by omega⟩
  show BQ n (JI n l f) l () _=_
  unfold BQ;rw[h];simp[ob,br]
 | step h hne _ ih =>
  intro f hf;obtain⟨f,rfl⟩:∃j,f=j+1:=⟨f-1,by omega⟩
  show BQ n (JI n l f) l () _=_
  unfold BQ;rw[h];have:=ih (f:=f) (by omega)
  simp[ob,br,hne,this]
def tO{U:Int->Prop}{W:Vn}{g:Int->WA Int}{K:Nat}(h:Ufs U W g K):Ufs (fun x=>g x≠none) W g K where
 key _:=Iff.rfl
 ends e he :=⟨(h.key _).2 (h.ends e he).1,(h.key _).2 (h.ends e he).2⟩
 ch x hx:=h.ch x ((h.key x).1 hx)
 eq a b:=h.eq a b
abbrev RB(W:Vn)(m:Vn)(K:Nat):Prop:=Ufs (fun x=>cR m x≠none) W (cR m) K
def iF(m:Vn)(x:Int):Vn:=if cR m x=none then gS m x x else m
def AA{W m:Vn}{K:Nat}(h:RB W m K)(x:Int):RB W (iF m x) K:=by
 unfold iF
 split
 rename_i hx;exact tO (h.put hx (g':=cR (gS m x x)) fun z=>gO m x z x)
 exact h
def zj{m:Vn}{x z:Int}:cR (iF m x) z≠none↔cR m z≠none\/z=x:=by
 unfold iF
 split
 rename_i hx;rw[gO]
 by_cases c:z=x
 rw[SU c]; exact⟨fun _=>.inr c,fun _ e=>(by cases e)⟩
 rw[SS c]; exact⟨.inl,fun e=>e.elim id fun e=>Tj e c⟩
 rename_i hx;exact⟨.inl,fun e=>e.elim id fun e=>by rw[e]; exact hx⟩
def Cq{m:Vn}(h:(m.map Prod.fst).Nodup)(x:Int):((iF m x).map Prod.fst).Nodup:=by
 unfold iF
 split
 exact oJ h x x
 exact h
def I6(n:Nat)(a b:Int)(m:Vn)(hn:10<n):bh (oe n a b) n (m,0)=some (iF (iF m a) b):=by
 obtain⟨n',rfl⟩:∃k,n=k+3:=⟨n-3,by omega⟩
 have one:∀(m:Vn) (i:Nat) (x:Int),i<2->([a,b]:WB Int)[i]? = some x->oe (n'+3) a b (m,(i:Int))=some (.inl (iF m x,((i+1:Nat):Int))):=fun m i x hi hx=>by
  unfold oe iF
  try dsimp only
  rw[V7,al hi,aL,aR hx,ai]
  cases hm:cR m x with
  | none =>
   simp only[Option.getD_none,Option.isSome_none,ai,TC,fx,if_true];rw[V9]
  | some y =>
   simp only[Vb,Option.isSome_some,ai,TG,fm];rw[V9]; simp
 have o1:=one m 0 a (by decide) rfl
 have o2:=one (iF m a) 1 b (by decide) rfl
 rw[show bh (oe (n'+3) a b) (n'+3) (m,0)=bh (oe (n'+3) a b) (n'+2) (iF m a,((0+1:Nat):Int)) from eQ o1,show bh (oe (n'+3) a b) (n'+2) (iF m a,((0+1:Nat):Int))=bh (oe (n'+3) a b) (n'+1) (iF (iF m a) b,((1+1:Nat):Int)) from eQ o2]
 refine fg ?_;unfold oe
 try dsimp only
 rw[av (by decide)]
def gh(W:WB dy):Vn:=W.map fun e=>(e.1,e.2.1)
def tv(W:WB dy)(x:Int):Prop:=∃e∈W,x=e.1\/x=e.2.1
structure Um(W:WB dy)(m:Vn)(K:Nat):Prop where
 uf:RB (gh W) m K
 nd:(m.map Prod.fst).Nodup
 key:∀x,cR m x≠none↔tv W x
def Lp(n:Nat){W:WB dy}{m:Vn}{K:Nat}(h:Um W m K)(e:dy)(hK:K<50000)(hn:99999<n) :
  ∃ra rb,JI n (iF (iF m e.1) e.2.1) n () e.1=some ra/\JI n (iF (iF m e.1) e.2.1) n () e.2.1=some rb/\Um (W++[e]) (gS (iF (iF m e.1) e.2.1) ra rb) (K+1):=by
 have h2:=AA (AA h.uf e.1) e.2.1;have hk:∀x,cR (iF (iF m e.1) e.2.1) x≠none↔tv (W++[e]) x:=fun x=>by
  rw[zj,zj,h.key];unfold tv;constructor
  rintro((⟨f,hf,g⟩|g)|g)
  exact⟨f,TA _ hf,g⟩
  exact⟨e,TF _ (S6.2 rfl),.inl g⟩
  exact⟨e,TF _ (S6.2 rfl),.inr g⟩
  rintro⟨f,hf,g⟩;rcases Tk.1 hf with hf|hf
  exact .inl (.inl ⟨f,hf,g⟩)
  rw[S6.1 hf] at g;exact g.elim (fun g=>.inl (.inr g)) .inr
 have hnd:=Cq (Cq h.nd e.1) e.2.1;generalize iF (iF m e.1) e.2.1=m' at *;have he:e∈W++[e]:=TF _ (S6.2 rfl);obtain⟨ra,ha⟩:=h2.ch e.1 ((hk _).2 ⟨e,he,.inl rfl⟩);obtain⟨rb,hb⟩:=h2.ch e.2.1 ((hk _).2 ⟨e,he,.inr rfl⟩);refine⟨ra,rb,Ff n ha (by omega),Ff n hb (by omega),?_,oJ hnd _ _,fun x=>?_⟩
 have:=h2.join ha hb (g':=cR (gS m' ra rb)) fun z=>gO m' ra z rb;have hW:gh (W++[e])=gh W++[(e.1,e.2.1)]:=by unfold gh; rw[Vg]; rfl
 rw[<-hW] at this;exact tO this
 rw[<-hk,gO]
 by_cases c:x=ra
 rw[SU c,c,ha.at_root]; exact⟨fun _ e=>(by cases e),fun _ e=>(by cases e)⟩
 rw[SS c]
section
variable{pts:WB I2}{F:WB Fc}(n:Nat)
def HL(W:WB dy)(hW:W.length<=20000)(hn:99999<n):∃m,bh (u1 n W) n ([],0)=some m/\Um W m W.length:=by
 have key:=dG (B:=u1 n W) (len:=W.length) (fun i (s:Vn)=>(s,(i:Int))) (fun i s=>Um (W.take i) s i) (fun r=>Um W r W.length) (fun i s hi hs=>.inl ?_) (fun s hs=>⟨s,?_,by rw[Vc] at hs; exact hs⟩) W.length 0 [] n (by omega) (by omega) ?_
 exact key
 ·have hx:=SR hi;obtain⟨ra,rb,h1,h2,h3⟩:=Lp n hs W[i] (by omega) hn
  rw[show W.take i++[W[i]]=W.take (i+1) by rw[Ux,hx]; rfl] at h3
  generalize W[i]=e at *;refine⟨_,?_,h3⟩;obtain⟨a,b,c,d⟩:=e
  dsimp only at h1 h2
  unfold u1
  try dsimp only
  rw[V7,al hi,aL,aR hx,ai]
  try dsimp only
  rw[I6 n a b s (by omega),ai,h1,ai,h2,ai,V9]
 ·unfold u1
  try dsimp only
  rw[V8]
 refine⟨tO Ufs.start,List.nodup_nil,fun x=>?_⟩;unfold tv;exact⟨fun h=>Tj rfl h,fun⟨e,h,_⟩=>(by cases h)⟩
def Tb(N:Nat)(cl:WB Int)(c:Int->Int):Prop:=cl.length=N/\∀i:Nat,i<N->cl[i]? = some (c (i:Int))
def Mk(N:Nat)(us:WB Bool)(V:Int->Prop):Prop:=us.length=N/\∀i:Nat,i<N->∃b,us[i]? = some b/\(b=true↔V (i:Int))
def LA{N:Nat}{cl:WB Int}{c:Int->Int}(h:Tb N cl c){a b:Nat}(ha:a<N)(hb:b<N):Tb N ((cl.set a (mi (c a) (c b))).set b (mi (c a) (c b))) (cW c ((a:Int),(b:Int))):=by
 refine⟨by rw[T0,T0]; exact h.1,fun i hi=>?_⟩
 unfold cW
 dsimp only
 rw[Us,T0,Us]
 by_cases cb:b=i
 subst cb;rw[SU rfl,SU (by rw[h.1]; exact hb),SU (.inr rfl),eK]
 rw[SS cb]
 by_cases ca:a=i
 subst ca;rw[SU rfl,SU (by rw[h.1]; exact ha),SU (.inl rfl),eK]
 rw[SS ca,SS (by rintro(g|g)<;>omega)]
 exact h.2 i hi
def Lw{N:Nat}{us:WB Bool}{V:Int->Prop}(h:Mk N us V){a b:Nat}(ha:a<N)(hb:b<N):Mk N ((us.set a true).set b true) (fun x=>V x\/x=(a:Int)\/x=(b:Int)):=by
 refine⟨by rw[T0,T0]; exact h.1,fun i hi=>?_⟩
 rw[Us,T0,Us]
 by_cases cb:b=i
 subst cb;rw[SU rfl,SU (by rw[h.1]; exact hb)]
 exact⟨true,rfl,fun _=>.inr (.inr rfl),fun _=>rfl⟩
 rw[SS cb]
 by_cases ca:a=i
 subst ca;rw[SU rfl,SU (by rw[h.1]; exact ha)]
 exact⟨true,rfl,fun _=>.inr (.inl rfl),fun _=>rfl⟩
 rw[SS ca];obtain⟨v,h1,h2⟩:=h.2 i hi;exact⟨v,h1,fun g=>.inl (h2.1 g),fun g=>h2.2 (g.elim id fun g=>by omega)⟩
def Mk.iff{N:Nat}{us:WB Bool}{V V':Int->Prop}(h:Mk N us V)(hV:∀x,V x↔V' x):Mk N us V':=⟨h.1,fun i hi=>by
 obtain⟨b,h1,h2⟩:=h.2 i hi;exact⟨b,h1,h2.trans (hV _)⟩⟩
def Sc(N:Nat)(W:WB dy):Prop:=∀e∈W,(0<=e.1/\e.1<N)/\(0<=e.2.1/\e.2.1<N)
def GR{W:WB dy}(hE:Sc pts.length W)(hW:W.length<=20000){cl:WB Int}{us:WB Bool}{c:Int->Int}{V:Int->Prop}(h1:Tb pts.length cl c)(h2:Mk pts.length us V)(hn:99999<n) :
  ∃cl' us',bh (vf n W pts) n (cl,us,0)=some (cl',us')/\Tb pts.length cl' (JJ (gh W) c)/\Mk pts.length us' (fun x=>V x\/tv W x):=by
 have key:=dG (B:=vf n W pts) (len:=W.length) (fun i (s:WB Int×WB Bool)=>(s.1,s.2,(i:Int))) (fun i s=>Tb pts.length s.1 ((gh (W.take i)).foldl cW c)/\Mk pts.length s.2 (fun x=>V x\/tv (W.take i) x)) (fun r=>Tb pts.length r.1 (JJ (gh W) c)/\Mk pts.length r.2 (fun x=>V x\/tv W x)) (fun i s hi hs=>.inl ?_) (fun s hs=>⟨s,?_,by rw[Vc] at hs; exact hs⟩) W.length 0 (cl,us) n (by omega) (by omega) ?_
 obtain⟨⟨r1,r2⟩,g1,g2,g3⟩:=key;exact⟨r1,r2,g1,g2,g3⟩
 ·have hx:=SR hi;have hb:=hE _ (Tx hi);have htk:W.take (i+1)=W.take i++[W[i]]:=by rw[Ux,hx]; rfl
  generalize W[i]=e at *;obtain⟨a,b,f,g⟩:=e;obtain⟨cl,us⟩:=s;obtain⟨t1,t2⟩:=hs
  dsimp only at t1 t2 hb ⊢
  obtain⟨⟨a0,a1⟩,⟨b0,b1⟩⟩:=hb;obtain⟨a,rfl⟩:∃k:Nat,a=(k:Int):=⟨a.toNat,by omega⟩
  obtain⟨b,rfl⟩:∃k:Nat,b=(k:Int):=⟨b.toNat,by omega⟩
  have ha:a<pts.length:=by omega
  have hb:b<pts.length:=by omega
  refine⟨((cl.set a (mi ((gh (W.take i)).foldl cW c a) ((gh (W.take i)).foldl cW c b))).set b (mi ((gh (W.take i)).foldl cW c a) ((gh (W.take i)).foldl cW c b)),(us.set a true).set b true),?_,?_,?_⟩
  ·have x1:=aR (t1.2 a ha);have x2:=aR (t1.2 b hb);obtain⟨v1,y1,_⟩:=t2.2 a ha;have y2:∃v,((us.set a true)[((b:Nat):Int).toNat]?)=some v:=by
    rw[Ti];exact⟨_,SR (by rw[T0,t2.1]; exact hb)⟩
   have x3:∃v,((cl.set a (mi ((gh (W.take i)).foldl cW c a) ((gh (W.take i)).foldl cW c b)))[((b:Nat):Int).toNat]?)=some v:=by
    rw[Ti];exact⟨_,SR (by rw[T0,t1.1]; exact hb)⟩
   obtain⟨v2,y2⟩:=y2;obtain⟨v3,x3⟩:=x3;unfold vf
   try dsimp only
   rw[V7]
   simp only[al hi,aL,aR hx,ai];simp only[Ti] at *;simp only[al ha,al hb,aL,x1,x2,x3,y1,y2,ai];rw[V9]
  rw[htk];have:=LA t1 ha hb;unfold gh at this ⊢;rw[Vg,List.foldl_append];exact this
  refine(Lw t2 ha hb).iff fun x=>?_;rw[htk];unfold tv;constructor
  rintro((g|⟨e,he,g⟩)|g|g)
  exact .inl g
  exact .inr ⟨e,TA _ he,g⟩
  exact .inr ⟨_,TF _ (S6.2 rfl),.inl g⟩
  exact .inr ⟨_,TF _ (S6.2 rfl),.inr g⟩
  rintro(g|⟨e,he,g⟩)
  exact .inl (.inl g)
  rcases Tk.1 he with he|he
  exact .inl (.inr ⟨e,he,g⟩)
  rw[S6.1 he] at g;exact .inr g
 ·unfold vf
  try dsimp only
  rw[V8]
 refine⟨h1,h2.iff fun x=>⟨.inl,fun g=>g.elim id fun⟨e,he,_⟩=>(by cases he)⟩⟩
def Gh{W:WB dy}(hE:Sc pts.length W)(hW:W.length<=20000)(hN:3<=pts.length/\pts.length<=120){cl:WB Int}{us:WB Bool}{c:Int->Int}(h1:Tb pts.length cl c)(h2:Mk pts.length us (fun _=>False))(hn:99999<n) :
  ∃cl' us',bh (vN n pts W) n (cl,us,0)=some (cl',us')/\Tb pts.length cl' (k5 (gh W) pts.length c)/\Mk pts.length us' (tv W):=by
 have key:=dG (B:=vN n pts W) (len:=pts.length) (fun i (s:WB Int×WB Bool)=>(s.1,s.2,(i:Int))) (fun i s=>Tb pts.length s.1 (k5 (gh W) i c)/\Mk pts.length s.2 (fun x=>i≠0/\tv W x)) (fun r=>Tb pts.length r.1 (k5 (gh W) pts.length c)/\Mk pts.length r.2 (tv W)) (fun i s hi hs=>.inl ?_) (fun s hs=>⟨s,?_,hs.1,hs.2.iff fun x=>⟨fun g=>g.2,fun g=>⟨by omega,g⟩⟩⟩) pts.length 0 (cl,us) n (by omega) (by omega) ⟨h1,h2.iff fun x=>⟨fun g=>g.elim,fun g=>Tj rfl g.1⟩⟩
 obtain⟨⟨r1,r2⟩,g1,g2,g3⟩:=key;exact⟨r1,r2,g1,g2,g3⟩
 ·obtain⟨cl,us⟩:=s;obtain⟨cl',us',g1,g2,g3⟩:=GR n hE hW hs.1 hs.2 hn;refine⟨(cl',us'),?_,g2,g3.iff fun x=>⟨fun g=>⟨by omega,g.elim (fun g=>g.2) id⟩,fun g=>.inr g.2⟩⟩
  unfold vN
  try dsimp only at g1 ⊢
  rw[V7,g1,ai]
  try dsimp only
  rw[V9]
 ·unfold vN
  try dsimp only
  rw[V8]
def Fw(hN:pts.length<=120)(hn:1000<n):∃cl,bh (wh n pts) n (List.replicate pts.length 0,0)=some cl/\Tb pts.length cl (fun i=>i):=by
 have key:=dG (B:=wh n pts) (len:=pts.length) (fun i (s:WB Int)=>(s,(i:Int))) (fun i s=>s.length=pts.length/\∀j:Nat,j<i->s[j]? = some (j:Int)) (fun r=>Tb pts.length r (fun i=>i)) (fun i s hi hs=>.inl ⟨s.set i (i:Int),?_,by rw[T0]; exact hs.1,fun j hj=>?_⟩) (fun s hs=>⟨s,?_,hs⟩) pts.length 0 (List.replicate pts.length 0) n (by omega) (by omega) ⟨List.length_replicate,fun j hj=>by omega⟩
 exact key
 ·unfold wh
  try dsimp only
  rw[Ti,V7,al hi,aL,aR (SR (show i<s.length by rw[hs.1]; exact hi)),ai,Ti,V9]
 rw[Us]
 by_cases c:i=j
 subst c; rw[SU rfl,SU (by rw[hs.1]; exact hi)]
 rw[SS c]; exact hs.2 j (by omega)
 ·unfold wh
  try dsimp only
  rw[Ti,V8]
def Di(us:WB Bool)(N:Nat):WB Nat:=(List.range N).filter fun i=>us.getD i false
def own(us:WB Bool)(cl:WB Int)(N:Nat):WB Nat:=(List.range N).filter fun i=>us.getD i false&&decide (cl.getD i 0=(i:Int))
def FN{us:WB Bool}{cl:WB Int}(h1:us.length=pts.length)(h2:cl.length=pts.length)(hN:pts.length<=120)(hn:1000<n):bh (vV n pts us cl) n (0,0,0)=some (((Di us pts.length).length:Int),((own us cl pts.length).length:Int)):=by
 have hb:∀i,(Di us i).length<=i/\(own us cl i).length<=i:=fun i=>by
  unfold Di own;exact⟨by have:=List.length_filter_le (fun i=>us.getD i false) (List.range i); rw[List.length_range] at this; exact this,by have:=List.length_filter_le (fun i=>us.getD i false&&decide (cl.getD i 0=(i:Int))) (List.range i); rw[List.length_range] at this; exact this⟩
 have key:=dG (B:=vV n pts us cl) (len:=pts.length) (fun i (s:Int×Int)=>(s.1,s.2,(i:Int))) (fun i s=>s=(((Di us i).length:Int),((own us cl i).length:Int))) (fun r=>r=(((Di us pts.length).length:Int),((own us cl pts.length).length:Int))) (fun i s hi hs=>.inl ⟨(((Di us (i+1)).length:Int),((own us cl (i+1)).length:Int)),?_,rfl⟩) (fun s hs=>⟨s,?_,hs⟩) pts.length 0 (0,0) n (by omega) (by omega) rfl
 obtain⟨r,g1,g2⟩:=key;subst g2; exact g1
 ·subst hs;have e1:=aR (SR (show i<us.length by omega))
  have e2:=aR (SR (show i<cl.length by omega))
  have f1:us.getD i false=us[i]'(by omega):=by rw[SZ,SR (by omega)]; rfl
  have f2:cl.getD i 0=cl[i]'(by omega):=by rw[SZ,SR (by omega)]; rfl
  have hbi:=hb i;have m1:Di us (i+1)=Di us i++if us.getD i false=true then[i] else[]:=by
   unfold Di; rw[List.range_succ,List.filter_append,List.filter_cons,List.filter_nil]
  have m2:own us cl (i+1)=own us cl i++if(us.getD i false&&decide (cl.getD i 0=(i:Int)))=true then[i] else[]:=by
   unfold own; rw[List.range_succ,List.filter_append,List.filter_cons,List.filter_nil]
  rw[f1] at m1 m2;rw[f2] at m2;rw[m1,m2];generalize us[i]=u at *;generalize cl[i]=x at *;unfold vV
  try dsimp only
  rw[Ti,V7,al hi,aL,e1,ai]
  cases u
  simp only[fm,ai,Bool.false_and,Ts,if_false,TI];rw[V9]
  ·simp only[fx,aL,e2,ai,Ut,if_true,Te,List.length_singleton]
   by_cases c:x=(i:Int)
   ·rw[au c,ai,S5 c,SU rfl]
    try dsimp only
    rw[V9,V9,V9]; rfl
   ·rw[av c,ai,S7 c,SS (by decide)]
    try dsimp only
    rw[V9,V9]; rfl
 ·unfold vV
  try dsimp only
  rw[Ti,V8]
def ve{α:Type}{l:WB α}(h:l.Nodup)(p:α->Bool):(l.filter p).Nodup:=h.filter p
def Ic(pts:WB I2)(F:WB Fc):∃r,Fo 100000 pts F=some r/\Qb 100000 pts F=some r:=by
 obtain⟨r',h1',h2,h3⟩:=vh 100000 pts F (by decide)
 have hn:99999<100000:=by decide
 unfold Fo Ku Qb;rw[h1',h2,ai,ai]
 by_cases c:r'=0
 ·obtain⟨hv,_⟩:=h3 c;have hN:=hv.len;rw[S5 c,TG,fm,fm,II 100000 hv,Iz 100000 hv hn,ai,ai];have hW:=yl (sE F) hN.2;have hE:Sc pts.length (B8 (sE F) pts.length):=fun e he=>by
   obtain⟨i,k,g1,g2,_,rfl⟩:=xU.1 he
   dsimp only
   omega
  generalize B8 (sE F) pts.length=W at *;obtain⟨m,hm,um⟩:=HL 100000 W (by omega) (by decide)
  obtain⟨cl,hcl,tb⟩:=Fw 100000 hN.2 (by omega)
  obtain⟨cl',us,hcu,tb',mk⟩:=Gh 100000 hE (by omega) hN tb (us:=List.replicate pts.length false) ⟨List.length_replicate,fun i hi=>⟨false,by rw[U2,SU hi],fun g=>(by cases g),fun g=>g.elim⟩⟩ hn
  have h4:=FN 100000 mk.1 tb'.1 hN.2 (by omega)
  have hr:∀e∈gh W,(0<=e.1/\e.1<pts.length)/\(0<=e.2/\e.2<pts.length):=fun e he=>by
   obtain⟨f,hf,rfl⟩:=TS.1 he;exact hE f hf
  have hlab0:wL pts.length (gh W) (fun i=>i):=fun i h0 hi=>⟨h0,Int.le_refl _,.refl _⟩;have hlab:=hlab0.k5 hr pts.length;have hst:=OU hr hlab0;have hU:∀x,cR m x≠none->0<=x/\x<pts.length:=fun x hx=>by
   obtain⟨e,he,g⟩:=(um.key x).1 hx;have:=hE e he;rcases g with rfl|rfl
   exact this.1
   exact this.2
  have us_iff:∀i:Nat,i<pts.length->(us.getD i false=true↔cR m (i:Int)≠none):=fun i hi=>by
   obtain⟨b,e1,e2⟩:=mk.2 i hi;rw[SZ,e1,um.key]; exact e2
  have cl_eq:∀i:Nat,i<pts.length->cl'.getD i 0=k5 (gh W) pts.length (fun i=>i) (i:Int):=fun i hi=>by
   rw[SZ,tb'.2 i hi]; rfl
  have ndM:((Di us pts.length).map fun i:Nat=>(i:Int)).Nodup:=List.Pairwise.map _ (fun a b hab e=>hab (by omega)) (ve List.nodup_range _)
  have hp:(m.length:Int)=((Di us pts.length).length:Int):=by
   have mem:∀x,x∈m.map Prod.fst↔x ∈(Di us pts.length).map fun i:Nat=>(i:Int):=fun x=>by
    rw[<-Jf,TS];unfold Di;constructor
    intro hx;have:=hU x hx;refine⟨x.toNat,Vf.2 ⟨Ua.2 (by omega),(us_iff _ (by omega)).2 ?_⟩,by omega⟩
    rw[TH this.1]; exact hx
    rintro⟨i,hi,rfl⟩;obtain⟨g1,g2⟩:=Vf.1 hi;exact(us_iff i (Ua.1 g1)).1 g2
   have a:=pR um.nd fun x hx=>(mem x).1 hx;have b:=pR ndM fun x hx=>(mem x).2 hx;rw[To] at a b;rw[To] at a b;omega
  have ndB:((own us cl' pts.length).map fun i:Nat=>(i:Int)).Nodup:=List.Pairwise.map _ (fun a b hab e=>hab (by omega)) (ve List.nodup_range _)
  have hq:jK m=((own us cl' pts.length).length:Int):=by
   have hA:((m.filter fun p=>decide (p.1=p.2)).map Prod.fst).Nodup:=List.Nodup.sublist (List.filter_sublist.map _) um.nd;have:=parts_eq um.uf hU hlab hst hA ndB (fun r=>?_) (fun x=>?_)
   rw[To,To] at this;unfold jK;rw[List.countP_eq_length_filter,this]
   rw[TS,rQ um.nd];constructor
   rintro⟨p,hp,rfl⟩;obtain⟨g1,g2⟩:=Vf.1 hp;have g2:=of_decide_eq_true g2;rw[show(p.1,p.1)=p from TZ rfl g2]; exact g1
   intro hr;exact⟨(r,r),Vf.2 ⟨hr,S5 rfl⟩,rfl⟩
   rw[TS];unfold own;constructor
   rintro⟨i,hi,rfl⟩;obtain⟨g1,g2⟩:=Vf.1 hi;have g1:=Ua.1 g1;rw[SY,S9,cl_eq i g1] at g2;exact⟨(us_iff i g1).1 g2.1,g2.2⟩
   rintro⟨g1,g2⟩;have:=hU x g1;refine⟨x.toNat,Vf.2 ⟨Ua.2 (by omega),?_⟩,by omega⟩
   rw[SY,S9,cl_eq _ (by omega),us_iff _ (by omega),TH this.1]
   exact⟨g1,g2⟩
  have hml:m.length<=120:=by
   have:=List.length_filter_le (fun i=>us.getD i false) (List.range pts.length);rw[List.length_range] at this;unfold Di at hp;omega
  refine⟨((m.length:Int),(W.length:Int),(F.length:Int),jK m,0),?_,?_⟩
  ·rw[hm,ai,ai]
   try dsimp only
   rw[bl (by omega),aL]
  ·simp only[Ti];rw[eT (by omega),bl (by omega),aL,eT (by omega),aL,hcl,ai,hcu,ai]
   try dsimp only
   rw[h4,ai]
   try dsimp only
   rw[<-hp,<-hq]
 rw[S7 c,TC,fx,fx];exact⟨_,rfl,rfl⟩
end
def N7(n:Nat){p q:WB dy}(hl:p.length<=20000)(hn:99999<n):Pp n p q=some (decide (p=q)):=by
 unfold Pp
 by_cases h:p.length=q.length
 ·rw[S5 (show(p.length:Int)=(q.length:Int) by omega),TG,fm,LF (l:=p) (l':=q) h (fun i hi hi'=>?hB) ?hE (by omega),ai]
  by_cases e:p=q
  rw[SU e,S5 e]
  rw[SS e,S7 e]
  case hB =>
   have e1:=SR hi;have e2:=SR hi';generalize p[i]=x at *;generalize q[i]=y at *;obtain⟨x1,x2,x3,x4⟩:=x;obtain⟨y1,y2,y3,y4⟩:=y;unfold C6;rw[V7,al hi,aL,aR e1,ai]
   try dsimp only
   rw[al hi',aL,aR e2,ai]
   try dsimp only
   rw[V9]
   by_cases c:x1=y1/\x2=y2/\x3=y3/\x4=y4
   obtain⟨rfl,rfl,rfl,rfl⟩:=c;simp[br]
   have:(decide (x1=y1)&&decide (x2=y2)&&decide (x3=y3)&&decide (x4=y4))=false:=by
    rw[<-Ty,<-Ty,<-Ty,S7 (fun g=>c ⟨g.1.1.1,g.1.1.2,g.1.2,g.2⟩)]
   rw[this,SS (fun e=>c (by cases e; exact⟨rfl,rfl,rfl,rfl⟩))]
   rfl
  case hE =>
   unfold C6;rw[V8]
 rw[S7 (show ¬(p.length:Int)=(q.length:Int) by omega),TC,fx,S7 (fun e=>h (by rw[e]))]
def DO(n:Nat)(pts:WB I2)(F:WB Fc)(hn:99999<n):∃r,NK n pts F=some r/\PU n pts F=some r/\r.1.length<=20000:=by
 obtain⟨r,h1,h2,h3⟩:=vh n pts F hn;unfold NK PU;rw[h1,h2,ai,ai]
 by_cases c:r=0
 obtain⟨hv,_⟩:=h3 c;rw[S5 c,TG,fm,fm,II n hv,Iz n hv hn];exact⟨_,rfl,rfl,by have:=yl (sE F) hv.len.2; show(B8 (sE F) pts.length).length<=20000; omega⟩
 rw[S7 c,TC,fx,fx];exact⟨_,rfl,rfl,by simp⟩
def J1(x1 x2:Nat)(l3 l7:WB Nat)(x11:Bool)(x12 x13 x14:Nat)(x15 x16 x17:Int)(x18 x19 x20:Nat)(x21 x22 x23:Int)(h13:x13<256)(h14:x14<256)(h19:x19<256)(h20:x20<256)(hw:F7 100000=some true) :
  F4 100000 x1 x2 l3 l7 x11 x12 x13 x14 x15 x16 x17 x18 x19 x20 x21 x22 x23=some true:=by
 unfold F4;obtain⟨c,d,e,h35,bc,bd,be,_⟩:=OX 100000 x1 x2 l3 l7 x11 x12 x13 x14 x15 x16 x17 x18 x19 x20 x21 x22 x23 h13 h14 h19 h20 (by decide)
 rw[h35,ai]
 try dsimp only
 have hO:bh (EN 100000 c.1 c.2 d.1 d.2 e.1 e.2) 100000 0=some (.inr ()):=by
  have h1:bh (EN 100000 c.1 c.2 d.1 d.2 e.1 e.2) 100000 0=some (bI (fun _=>none) (.inr ()) 3 0):=by
   refine bp (len:=3) (fun i hi=>?_) ?_ 3 0 100000 (by decide) (by decide)
   ·have hi':i < [(c.1,c.2),(d.1,d.2),(e.1,e.2)].length:=hi;have hx:=SR hi';generalize [(c.1,c.2),(d.1,d.2),(e.1,e.2)][i]=x at hx;obtain⟨p,G⟩:=x;obtain⟨r,a1,a2,a3⟩:=DO 100000 p G (by decide)
    obtain⟨s,b1,b2⟩:=Ic p G;obtain⟨r1,r2⟩:=r;obtain⟨s1,s2,s3,s4,s5⟩:=s;unfold EN;rw[V7,al hi,aL,aR hx,ai]
    try dsimp only
    rw[a1,ai,a2,ai]
    try dsimp only
    rw[b1,ai,b2,ai]
    try dsimp only
    simp only[decide_true,TG,fm];rw[N7 100000 a3 (by decide),ai]
    simp only[decide_true,TG,fm,ai];rw[V9]
   unfold EN;rw[av (by decide)]
  rw[h1]; rfl
 rw[hO,ai]
 try dsimp only
 rw[hw,ai]
end
end Go.Proofs.YtmndpgfbkicndaaGreat
