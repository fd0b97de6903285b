/- A part of the proof. -/
import Derived.Test.YtmndpgfbkicndaaCp6
set_option linter.all false
section
namespace Go.Proofs.Ytmndpgfbkicndaa
section
open Go Go.Ab Go.Ab.W Go.Ab.B Jd
def lD(x:Int):Prop:=-9223372036854775808<=x/\x<9223372036854775808
def Fa(p:I2):Prop:=p.1 < -1000000\/1000000<p.1\/p.2 < -1000000\/1000000<p.2
instance(p:I2):Decidable (Fa p):=by unfold Fa; infer_instance
instance(a b p:I2):Decidable (cz a b p):=by unfold cz; infer_instance
def mu(a b:Int):ma a b=max a b:=by unfold ma; split<;>omega
def lI(a b:Int):mi a b=min a b:=by unfold mi; split<;>omega
def JY{x:Int}(h:lD x):S6 (0-x)=if x = -9223372036854775808 then x else -x:=by
 unfold lD at h
 split
 rename_i e; subst e; decide
 rw[aC (by omega) (by omega)]; omega
def pZ(n:Nat){x y:Int}(hx:lD x)(hy:lD y):Hs n x y=some (decide (Fa (x,y))):=by
 unfold Hs;rw[JY hx,JY hy,ai,p6,<-Bool.decide_or]
 congr 1
 rw[decide_eq_decide];unfold lD at hx hy;unfold Fa
 dsimp only
 rw[mu,mu,mu,lI]
 split<;>split<;>omega
def sg(z:Int):Int:=if z<0 then -1 else if 0<z then 1 else 0
def AT(n:Nat)(x y:Int):L4 n x y=some (sg (x-y)):=by
 unfold L4 Oh sg;simp only[decide_true,Rv,ai,gw]
 by_cases h:x<y
 rw[aF h,QH (show x-y<0 by omega)]
 rw[aE h,QF (show ¬x-y<0 by omega)]
 by_cases g:y<x
 rw[aF g,QH (show 0<x-y by omega)]
 rw[aE g,QF (show ¬0<x-y by omega)]
def Nr(p:I2):Prop:=-1000000<=p.1/\p.1<=1000000/\-1000000<=p.2/\p.2<=1000000
def oW{p:I2}:¬Fa p↔Nr p:=by unfold Fa Nr; omega
def nK(n:Nat){a b c:I2}(ha:Nr a)(hb:Nr b)(hc:Nr c):Gb n a.1 a.2 b.1 b.2 c.1 c.2=some (sg (ti a b c)):=by
 unfold Nr at ha hb hc;have m1:=gD (B:=2000000) (C:=2000000) (u:=b.1-a.1) (v:=c.2-a.2) (by decide) (by omega) (by omega) (by omega) (by omega)
 have m2:=gD (B:=2000000) (C:=2000000) (u:=b.2-a.2) (v:=c.1-a.1) (by decide) (by omega) (by omega) (by omega) (by omega)
 unfold Gb;rw[aC (x:=b.1-a.1) (by omega) (by omega),aC (x:=c.2-a.2) (by omega) (by omega),aC (x:=b.2-a.2) (by omega) (by omega),aC (x:=c.1-a.1) (by omega) (by omega),
  aC (by omega) (by omega),aC (by omega) (by omega),ai,ai,AT,ai]
 rfl
def pd{z:Int}:sg z=0↔z=0:=by unfold sg; split<;>(try split)<;>omega
def pO{z:Int}:sg z<0↔z<0:=by unfold sg; split<;>(try split)<;>omega
def hU{z:Int}:0<sg z↔0<z:=by unfold sg; split<;>(try split)<;>omega
def pz(z:Int):sg z = -1\/sg z=0\/sg z=1:=by unfold sg; split<;>(try split)<;>simp
def K6(n:Nat)(r s:Int)(hn:2<n):OE n [r,s]=some (if r≠0 then r else s):=by
 obtain⟨n,rfl⟩:∃n',n=n'+3:=⟨n-3,by omega⟩
 have L0:qa (n+3) [r,s] 0=if r≠0 then some (.inr (.inl r)) else some (.inl 1):=by
  unfold qa;rw[aF (by simp),show ck 0 [r,s].length=true from rfl,aY]
  show ob (some r) _=_
  rw[ai]
  by_cases h:r=0
  rw[QM h,Rv,gw,QF (by simpa using h)]; rfl
  rw[QO h,Rq,iz,QH h]
 have L1:qa (n+3) [r,s] 1=if s≠0 then some (.inr (.inl s)) else some (.inl 2):=by
  unfold qa;rw[aF (by simp),show ck 1 [r,s].length=true from rfl,aY]
  show ob (some s) _=_
  rw[ai]
  by_cases h:s=0
  rw[QM h,Rv,gw,QF (by simpa using h)]; rfl
  rw[QO h,Rq,iz,QH h]
 have L2:qa (n+3) [r,s] 2=some (.inr (.inr ())):=by
  unfold qa;rw[aE (by simp)]
 unfold OE
 by_cases h:r=0
 rw[QF (by simpa using h)] at L0 ⊢
 rw[fK L0]
 by_cases g:s=0
 rw[QF (by simpa using g)] at L1
 rw[fK L1,fq L2,ai,g]
 rw[QH g] at L1;rw[fq L1,ai]
 rw[QH h] at L0 ⊢;rw[fq L0,ai]
def OZ(a b:I2):Int:=if sg (a.1-b.1)≠0 then sg (a.1-b.1) else sg (a.2-b.2)
def Aq(n:Nat)(a b:I2)(hn:2<n):I1 n a.1 a.2 b.1 b.2=some (OZ a b):=by
 unfold I1;rw[AT,ai,AT,ai,K6 n _ _ hn,ai]; rfl
def vu{a b:I2}:OZ a b<=0↔Lx a b:=by
 unfold OZ Lx;have h1:=pd (z:=a.1-b.1);have h2:=hU (z:=a.1-b.1);have h3:=hU (z:=a.2-b.2)
 split<;>omega
def Aj(n:Nat)(e:Int){a b p:I2}(ha:Nr a)(hb:Nr b)(hp:Nr p)(hab:a≠b)(hn:2<n):Lw n e a.1 a.2 b.1 b.2 p.1 p.2=some (decide (cz a b p)):=by
 unfold Lw;rw[nK n ha hb hp,ai]
 by_cases h0:ti a b p=0
 rw[QM (pd.2 h0),Rv,gw,Aq n a b hn,ai];have key:∀{u v:I2},u≠v->Lx u v->ti u v p=0->(ob (I1 n u.1 u.2 p.1 p.2) fun r28=>br (decide (r28<=0)) (ob (I1 n p.1 p.2 v.1 v.2) fun r31=>some (decide (r31<=0))) (some false))=some (decide (cz u v p)):=fun{u v} huv hl ht=>by
  rw[Aq n u p hn,ai,Aq n p v hn,ai,er,<-Ro]
  congr 1
  rw[decide_eq_decide,nV huv hl,vu,vu];exact⟨fun h=>⟨ht,h⟩,fun h=>h.2⟩
 by_cases hl:0<OZ a b
 rw[aF hl,ai];have hl':Lx b a:=by
  have:¬Lx a b:=fun h=>by have:=vu.2 h; omega
  unfold Lx at this ⊢; omega
 have:=key hab.symm hl' (by rw[eh,h0]; rfl)
 dsimp only
 rw[this]
 congr 1
 rw[decide_eq_decide]; exact su
 rw[aE hl,ai];exact key hab (vu.1 (by omega)) h0
 rw[QO (fun h=>h0 (pd.1 h)),Rq,iz,QO fun h=>h0 h.1]
def tq{α β:Type}[DecidableEq α](k:α):∀(xs:TO (α×β)) (i:Nat),(cS k xs i=none/\k∉xs.map Prod.fst)\/∃j v,cS k xs i=some (i+j,v)/\(xs[j]?).map Prod.fst=some k
 | [],_=>.inl ⟨rfl,by simp⟩
 | e::es,i=>by
  unfold cS
  by_cases h:k=e.1
  rw[QH h]; exact .inr ⟨0,e.2,rfl,by rw[h]; rfl⟩
  rw[QF h];rcases tq k es (i+1) with⟨h1,h2⟩|⟨j,v,h1,h2⟩
  exact .inl ⟨h1,fun g=>by
   rw[RQ,QY] at g;exact g.elim h h2⟩
  exact .inr ⟨j+1,v,by rw[h1,show i+1+j=i+(j+1) by omega],h2⟩
def Cv{α β:Type}[DecidableEq α](xs:TO (α×β))(k:α)(v:β):(jA xs k v).map Prod.fst=if k∈xs.map Prod.fst then xs.map Prod.fst else xs.map Prod.fst++[k]:=by
 unfold jA;rcases tq k xs 0 with⟨h1,h2⟩|⟨j,w,h1,h2⟩
 rw[h1,QF h2]; simp
 rw[h1,Ra];have hj:j<xs.length:=by
  refine QI fun hc=>?_;rw[RC (by omega)] at h2; cases h2
 have e:(xs.map Prod.fst)[j]? = some k:=by rw[Rw]; exact h2
 rw[QH (Q4 e),List.map_set];refine RG fun t=>?_;rw[List.getElem?_set]
 by_cases ht:j=t
 subst ht;rw[QH rfl,QH (by rw[Q0]; exact hj),e]
 rw[QF ht]
def w6(a b c d:I2)(l:TO (I2×Bool))(x:I2):TO (I2×Bool):=if cz a b x/\cz c d x then jA l x true else l
def yO{a b c d:I2}:∀(xs:TO I2) (l:TO (I2×Bool)),(l.map Prod.fst).Nodup->((xs.foldl (w6 a b c d) l).map Prod.fst).Nodup/\∀q,q ∈(xs.foldl (w6 a b c d) l).map Prod.fst↔q∈l.map Prod.fst\/(q∈xs/\cz a b q/\cz c d q)
 | [],l,hn=>⟨hn,fun q=>by simp⟩
 | x::xs,l,hn=>by
  rw[List.foldl_cons];have key:((w6 a b c d l x).map Prod.fst).Nodup/\∀q,q ∈(w6 a b c d l x).map Prod.fst↔q∈l.map Prod.fst\/(q=x/\cz a b q/\cz c d q):=by
   unfold w6
   by_cases h:cz a b x/\cz c d x
   rw[QH h,Cv]
   by_cases g:x∈l.map Prod.fst
   rw[QH g];exact⟨hn,fun q=>⟨.inl,fun e=>e.elim id fun e=>e.1▸g⟩⟩
   rw[QF g];refine⟨List.nodup_append.2 ⟨hn,by simp,fun u hu v hv=>?_⟩,fun q=>?_⟩
   rw[QW] at hv;intro e; rw[e,hv] at hu; exact g hu
   rw[Q3,QW];exact⟨fun e=>e.elim .inl fun e=>.inr ⟨e,e▸h⟩,fun e=>e.elim .inl fun e=>.inr e.1⟩
   rw[QF h];exact⟨hn,fun q=>⟨.inl,fun e=>e.elim id fun⟨e,g⟩=>Q1 (e▸g) h⟩⟩
  obtain⟨k1,k2⟩:=key;obtain⟨r1,r2⟩:=yO xs _ k1;refine⟨r1,fun q=>?_⟩;rw[r2,k2,QY];constructor
  rintro((h|⟨rfl,h⟩) |⟨h,g⟩)
  exact .inl h
  exact .inr ⟨.inl rfl,h⟩
  exact .inr ⟨.inr h,g⟩
  rintro(h|⟨rfl|h,g⟩)
  exact .inl (.inl h)
  exact .inl (.inr ⟨rfl,g⟩)
  exact .inr ⟨h,g⟩
def u1(n:Nat)(e f:Int){a b c d x:I2}(ha:Nr a)(hb:Nr b)(hc:Nr c)(hd:Nr d)(hx:Nr x)(hab:a≠b)(hcd:c≠d)(hn:2<n)(l:TO (I2×Bool)){i:Nat}(hi:i<4)(he:[a,b,c,d][i]? = some x) :
  qe n a.1 a.2 b.1 b.2 c.1 c.2 d.1 d.2 e f (l,(i:Int))=some (.inl (w6 a b c d l x,((i+1:Nat):Int))):=by
 unfold qe
 dsimp only
 rw[aF (by omega),aA hi,aY,Rb]
 have:[(a.1,a.2),(b.1,b.2),(c.1,c.2),(d.1,d.2)][i]? = some (x.1,x.2):=he;rw[this,ai]
 dsimp only
 rw[Aj n e ha hb hx hab hn,ai,Aj n f hc hd hx hcd hn,ai,er,ai,aw (by omega)]
 unfold w6
 by_cases h:cz a b x/\cz c d x
 rw[QM h.1,QM h.2,QH h]; rfl
 rw[QF h,<-Ro,QO h]; rfl
def DQ(n:Nat)(e f:Int){a b c d:I2}(ha:Nr a)(hb:Nr b)(hc:Nr c)(hd:Nr d)(hab:a≠b)(hcd:c≠d)(hn:5<n):MN n e a.1 a.2 b.1 b.2 f c.1 c.2 d.1 d.2=some (nF a b c d):=by
 classical
 unfold MN;rw[nK n ha hb hc,ai,nK n ha hb hd,ai,nK n hc hd ha,ai,nK n hc hd hb,ai];have L:bH (qe n a.1 a.2 b.1 b.2 c.1 c.2 d.1 d.2 e f) n ([],0)=some ([a,b,c,d].foldl (w6 a b c d) []):=by
  obtain⟨m,hm⟩:∃m,n=m+5:=⟨n-5,by omega⟩
  have L5:∀l,qe n a.1 a.2 b.1 b.2 c.1 c.2 d.1 d.2 e f (l,((4:Nat):Int))=some (.inr l):=fun l=>by
   unfold qe
   dsimp only
   rw[aE (by decide)]
  have h0:=u1 n e f ha hb hc hd ha hab hcd (by omega) [] (i:=0) (by decide) rfl
  have h1:=u1 n e f ha hb hc hd hb hab hcd (by omega) (w6 a b c d [] a) (i:=1) (by decide) rfl
  have h2:=u1 n e f ha hb hc hd hc hab hcd (by omega) (w6 a b c d (w6 a b c d [] a) b) (i:=2) (by decide) rfl
  have h3:=u1 n e f ha hb hc hd hd hab hcd (by omega) (w6 a b c d (w6 a b c d (w6 a b c d [] a) b) c) (i:=3) (by decide) rfl
  have:∀body:(TO (I2×Bool)×Int)->TN ((TO (I2×Bool)×Int)⊕TO (I2×Bool)),body=qe n a.1 a.2 b.1 b.2 c.1 c.2 d.1 d.2 e f->bH body n ([],0)=some ([a,b,c,d].foldl (w6 a b c d) []):=fun body hbd=>by
   rw[<-hbd] at h0 h1 h2 h3 L5;rw[hm,show(0:Int)=((0:Nat):Int) from rfl,fK h0,fK h1,fK h2,fK h3,fq (L5 _)]
   rfl
  exact this _ rfl
 obtain⟨k1,k2⟩:=yO (a:=a) (b:=b) (c:=c) (d:=d) [a,b,c,d] [] (by simp)
 have hlen:([a,b,c,d].foldl (w6 a b c d) []).length=(([a,b,c,d].foldl (w6 a b c d) []).map Prod.fst).length:=by rw[Q0]
 rw[L,ai];generalize [a,b,c,d].foldl (w6 a b c d) []=l at *;have kc:∀q,q∈l.map Prod.fst↔jF a b c d q:=fun q=>by
  rw[k2];unfold jF;constructor
  rintro(h|⟨h,g⟩)
  simp at h
  exact⟨by simpa only[QY,List.not_mem_nil,or_false] using h,g⟩
  rintro⟨h,g⟩;exact .inr ⟨by simpa only[QY,List.not_mem_nil,or_false] using h,g⟩
 rw[ai,ai,hlen];generalize l.map Prod.fst=ks at *;unfold nF
 by_cases h2:∃x y,jF a b c d x/\jF a b c d y/\x≠y
 obtain⟨x,y,hx,hy,hne⟩:=h2;have:=uv (l:=[x,y]) (m:=ks) (by simp[hne]) fun q hq=>by
  simp only[QY,List.not_mem_nil,or_false] at hq;rcases hq with rfl|rfl
  exact(kc _).2 hx
  exact(kc _).2 hy
 have hl:2<=ks.length:=this;rw[aF (by omega),QH ⟨x,y,hx,hy,hne⟩]
 ·have hl1:ks.length<=1:=by
   match ks,k1,kc with
   | [],_,_=>exact RF _
   | [_],_,_=>exact QK _
   | x::y::t,k1,kc =>
    refine Q1 ⟨x,y,(kc x).1 (by simp),(kc y).1 (by simp),?_⟩ h2
    intro e; subst e; simp at k1
  rw[QF h2,aE (by omega)]
  by_cases h1:∃x,jF a b c d x
  obtain⟨x,hx⟩:=h1;have:0<ks.length:=List.length_pos_of_mem ((kc x).2 hx);rw[QH ⟨x,hx⟩,aF (by omega)]
  ·have:ks.length=0:=by
    match ks,kc with
    | [],_=>rfl
    | x::t,kc=>exact Q1 ⟨x,(kc x).1 (by simp)⟩ h1
   rw[QF h1,aE (by omega)]
   have w:∀u v:Int,S6 (sg u*sg v)=sg u*sg v:=fun u v=>by
    have h1:=pz u;have h2:=pz v;rcases h1 with h1|h1|h1<;>rcases h2 with h2|h2|h2<;>rw[h1,h2]<;>decide
   have s:∀u v:Int,sg u*sg v<0↔(0<u/\v<0)\/(u<0/\0<v):=fun u v=>by
    have a1:=pO (z:=u);have a2:=hU (z:=u);have b1:=pO (z:=v);have b2:=hU (z:=v);have h1:=pz u;have h2:=pz v;rcases h1 with h1|h1|h1<;>rcases h2 with h2|h2|h2<;>rw[h1] at a1 a2 ⊢<;>rw[h2] at b1 b2 ⊢<;>omega
   rw[w,w,er,ai,Em]
   by_cases hx:Cp a b c d
   rw[QH hx,QH];unfold Cp at hx;rw[QJ,QR,QR,s,s];exact hx
   rw[QF hx,QF];rw[QJ,QR,QR,s,s];exact hx
def Ll(n:Nat){a b c d:I2}(ha:lD a.1/\lD a.2)(hb:lD b.1/\lD b.2)(hc:lD c.1/\lD c.2)(hd:lD d.1/\lD d.2)(hn:5<n) :
  Oj n a.1 a.2 b.1 b.2 c.1 c.2 d.1 d.2=some (if Fa a\/Fa b\/Fa c\/Fa d\/a=b\/c=d then(0,2) else(nF a b c d,0)):=by
 classical
 unfold Oj;rw[pZ n ha.1 ha.2,pZ n hb.1 hb.2,pZ n hc.1 hc.2,pZ n hd.1 hd.2,ai,ai,ai,ai,p6,p6,p6,p6,p6,ai];have e1:(decide (a.1=b.1)&&decide (a.2=b.2))=decide (a=b):=by
  rw[<-Ro,decide_eq_decide]; exact⟨fun h=>Rz h.1 h.2,fun h=>by subst h; exact⟨rfl,rfl⟩⟩
 have e2:(decide (c.1=d.1)&&decide (c.2=d.2))=decide (c=d):=by
  rw[<-Ro,decide_eq_decide]; exact⟨fun h=>Rz h.1 h.2,fun h=>by subst h; exact⟨rfl,rfl⟩⟩
 rw[e1,e2,Em];have hd:(decide (Fa (a.1,a.2)) ||(decide (Fa (b.1,b.2)) ||(decide (Fa (c.1,c.2)) ||(decide (Fa (d.1,d.2)) ||(decide (a=b)||decide (c=d))))))=decide (Fa a\/Fa b\/Fa c\/Fa d\/a=b\/c=d):=by
  simp only[Bool.decide_or]
 rw[hd]
 by_cases h:Fa a\/Fa b\/Fa c\/Fa d\/a=b\/c=d
 rw[QH (QM h),QH h]
 rw[QF (by simpa using h),QF h]
 simp only[not_or] at h;obtain⟨h1,h2,h3,h4,h5,h6⟩:=h;rw[DQ n 0 0 (oW.1 h1) (oW.1 h2) (oW.1 h3) (oW.1 h4) h5 h6 hn,ai]
end
section
open Go Go.Ab Go.Ab.W Go.Ab.B Jd
def bL{ρ:Type}(f:Nat->TN ρ)(e:ρ):Nat->Nat->ρ
 | 0,_=>e
 | k+1,i=>match f i with
  | some r=>r
  | none=>bL f e k (i+1)
def cQ{ρ:Type}{B:Int->TN (Int⊕ρ)}{f:Nat->TN ρ}{e:ρ}{len:Nat}(hB:∀i:Nat,i<len->B (i:Int)=some (match f i with|some r=>.inr r|none=>.inl ((i+1:Nat):Int)))(hE:B (len:Int)=some (.inr e)) :
  ∀(k i n:Nat),i+k=len->k<n->bH B n (i:Int)=some (bL f e k i)
 | 0,i,n+1,h,_=>by
  rw[RV] at h; subst h;simp only[bH,hE,bL]
 | k+1,i,n+1,h,hn=>by
  have:=hB i (by omega)
  simp only[bH,this,bL];cases hf:f i with
  | some r=>rfl
  | none=>exact cQ hB hE k (i+1) n (by omega) (by omega)
def cA{ρ:Type}{f:Nat->TN ρ}{e:ρ}:∀(k i:Nat),((∀j,i<=j->j<i+k->f j=none)/\bL f e k i=e)\/∃j,i<=j/\j<i+k/\f j=some (bL f e k i)
 | 0,i=>.inl ⟨fun j h1 h2=>by omega,rfl⟩
 | k+1,i=>by
  cases hf:f i with
  | some r=>exact .inr ⟨i,by omega,by omega,by simp only[bL,hf]⟩
  | none =>
   have e1:bL f e (k+1) i=bL f e k (i+1):=by simp only[bL,hf]
   rw[e1];rcases cA (f:=f) (e:=e) k (i+1) with⟨h1,h2⟩|⟨j,h1,h2,h3⟩
   refine .inl ⟨fun j a b=>?_,h2⟩
   by_cases e:j=i
   rw[e]; exact hf
   exact h1 j (by omega) (by omega)
   exact .inr ⟨j,by omega,by omega,h3⟩
def jT{l:TO I2}{i:Nat}(h:i<l.length):l[((i:Nat):Int).toNat]? = some ((nx l i).1,(nx l i).2):=by
 rw[Rb,QG h];unfold nx;rw[R9 h,QN,QG h]; rfl
def kD(m n:Nat):Int.tmod (m:Int) (n:Int)=((m%n:Nat):Int):=rfl
def w8{l:TO I2}{i:Nat}:nx l (i%l.length)=nx l i:=by unfold nx; rw[Nat.mod_mod]
def O7{a b c:I2}(ha:Nr a)(hb:Nr b)(hc:Nr c):S6 (S6 ((S6 (b.1-a.1))*(S6 (c.1-b.1)))+S6 ((S6 (b.2-a.2))*(S6 (c.2-b.2))))=di a b c:=by
 unfold Nr at ha hb hc;have m1:=gD (B:=2000000) (C:=2000000) (u:=b.1-a.1) (v:=c.1-b.1) (by decide) (by omega) (by omega) (by omega) (by omega)
 have m2:=gD (B:=2000000) (C:=2000000) (u:=b.2-a.2) (v:=c.2-b.2) (by decide) (by omega) (by omega) (by omega) (by omega)
 rw[aC (x:=b.1-a.1) (by omega) (by omega),aC (x:=c.1-b.1) (by omega) (by omega),aC (x:=b.2-a.2) (by omega) (by omega),aC (x:=c.2-b.2) (by omega) (by omega),
  aC (x:=(b.1-a.1)*(c.1-b.1)) (by omega) (by omega),aC (x:=(b.2-a.2)*(c.2-b.2)) (by omega) (by omega),aC (by omega) (by omega)]
 rfl
end
section
open Go Go.Ab Go.Ab.W Go.Ab.B Jd
def lh(l:TO I2)(i:Nat):TN (Int⊕TP):=if Fa (nx l i) then some (.inl (i:Int)) else none
def jt(l:TO I2)(i:Nat):TN (Int⊕TP):=if nx l i=nx l (i+1) then some (.inl (i:Int)) else none
def jZ(l:TO I2)(i:Nat):TN (Int⊕TP):=if ti (nx l (i+l.length-1)) (nx l i) (nx l (i+1))=0/\di (nx l (i+l.length-1)) (nx l i) (nx l (i+1))<0 then some (.inl (i:Int)) else none
def AJ(l:TO I2)(i j:Nat):Prop:=¬(j=0/\i=l.length-1)/\nF (nx l j) (nx l (j+1)) (nx l i) (nx l (i+1))≠0
open Classical in
noncomputable def kL (l:TO I2) (i:Nat):TN (Int⊕TP):=if ∃j,j+1<i/\AJ l i j then some (.inl (i:Int)) else none
noncomputable def uA (l:TO I2):Int×Int :=
 if l.length<3\/40<l.length then(1,0) else
 match bL (lh l) (.inr ()) l.length 0 with
 | .inl v=>(2,v)
 | .inr _=>match bL (jt l) (.inr ()) l.length 0 with
  | .inl v=>(3,v)
  | .inr _=>match bL (jZ l) (.inr ()) l.length 0 with
   | .inl v=>(4,v)
   | .inr _=>match bL (kL l) (.inr ()) l.length 0 with
    | .inl v=>(5,v)
    | .inr _=>(0,0)
section
variable{l:TO I2}(n:Nat)
def Hj(p q:I2):(decide (p.1=q.1)&&decide (p.2=q.2))=decide (p=q):=by
 rw[<-Ro,decide_eq_decide]; exact⟨fun h=>Rz h.1 h.2,fun h=>by subst h; exact⟨rfl,rfl⟩⟩
def EE(h64:∀i,lD (nx l i).1/\lD (nx l i).2)(hn:l.length<n)(hl:l.length<100):bH (xQ n l) n 0=some (bL (lh l) (.inr ()) l.length 0):=by
 refine cQ (len:=l.length) (fun i hi=>?_) ?_ l.length 0 n (by omega) hn
 unfold xQ lh
 dsimp only
 rw[aF (by omega),aA hi,aY,jT hi,ai]
 dsimp only
 rw[pZ n (h64 i).1 (h64 i).2,ai,aw (by omega)]
 by_cases h:Fa (nx l i)
 rw[aF (show Fa ((nx l i).1,(nx l i).2) from h),QH h]
 rw[aE (show ¬Fa ((nx l i).1,(nx l i).2) from h),QF h]
 unfold xQ
 dsimp only
 rw[aE (by omega)]
def jq(i:Nat)(hi:i<l.length)(hl:l.length<100){β:Type}(K:Int×Int->TN β) :
  gd (decide ((l.length:Int)≠0)) (gd (ck (Int.tmod ((i+1:Nat):Int) (l.length:Int)) l.length) (ob (l[(Int.tmod ((i+1:Nat):Int) (l.length:Int)).toNat]?) K))=K ((nx l (i+1)).1,(nx l (i+1)).2):=by
 have hm:(i+1)%l.length<l.length:=Ru _ (by omega)
 rw[QM (show((l.length:Nat):Int)≠0 by omega),aY,kD,aA hm,aY,jT hm,ai,w8]
def G6(hn:l.length<n)(hl:l.length<100):bH (xJ n l) n 0=some (bL (jt l) (.inr ()) l.length 0):=by
 refine cQ (len:=l.length) (fun i hi=>?_) ?_ l.length 0 n (by omega) hn
 unfold xJ jt
 dsimp only
 rw[aF (by omega),aA hi,aY,jT hi,ai]
 dsimp only
 rw[aw (by omega),jq i hi hl]
 dsimp only
 rw[Hj]
 by_cases h:nx l i=nx l (i+1)
 rw[aF h,QH h]; rfl
 rw[aE h,QF h]; rfl
 unfold xJ
 dsimp only
 rw[aE (by omega)]
def G1(hnr:∀i,Nr (nx l i))(hn:l.length<n)(hl:l.length<100):bH (xM n l) n 0=some (bL (jZ l) (.inr ()) l.length 0):=by
 refine cQ (len:=l.length) (fun i hi=>?_) ?_ l.length 0 n (by omega) hn
 have hm:(i+l.length-1)%l.length<l.length:=Ru _ (by omega)
 have e1:S6 ((S6 ((i:Int)+(l.length:Int)))-1)=((i+l.length-1:Nat):Int):=by
  rw[aC (x:=(i:Int)+(l.length:Int)) (by omega) (by omega),aC (by omega) (by omega)]; omega
 unfold xM jZ
 dsimp only
 rw[aF (by omega),aA hi,aY,jT hi,ai]
 dsimp only
 rw[aw (by omega),jq i hi hl]
 dsimp only
 rw[e1,QM (show((l.length:Nat):Int)≠0 by omega),aY,kD,ai,aA hm,aY,jT hm,w8,ai]
 dsimp only
 rw[nK n (hnr _) (hnr _) (hnr _),ai,ai,ai,O7 (hnr _) (hnr _) (hnr _),er,ai,<-Ro]
 by_cases h:ti (nx l (i+l.length-1)) (nx l i) (nx l (i+1))=0/\di (nx l (i+l.length-1)) (nx l i) (nx l (i+1))<0
 rw[aF (show _/\_ from⟨pd.2 h.1,h.2⟩),QH h]; rfl
 rw[aE (fun g=>h ⟨pd.1 g.1,g.2⟩),QF h]; rfl
 unfold xM
 dsimp only
 rw[aE (by omega)]
end
end
section
open Go Go.Ab Go.Ab.W Go.Ab.B Jd
section
variable{l:TO I2}(n:Nat)
open Classical in
noncomputable def D9 {ρ:Type} (l:TO I2) (r:ρ) (i j:Nat):TN ρ:=if AJ l i j then some r else none
def Mh{ρ:Type}{r e:ρ}(hre:r≠e){i:Nat}:(bL (D9 l r i) e (i-1) 0=r/\∃j,j+1<i/\AJ l i j)\/(bL (D9 l r i) e (i-1) 0=e/\¬∃j,j+1<i/\AJ l i j):=by
 classical
 rcases cA (f:=D9 l r i) (e:=e) (i-1) 0 with⟨h1,h2⟩|⟨j,_,h2,h3⟩
 refine .inr ⟨h2,?_⟩;rintro⟨j,hj,hh⟩;have:=h1 j (by omega) (by omega)
 unfold D9 at this;rw[QH hh] at this;cases this
 unfold D9 at h3
 split at h3
 rename_i hh;exact .inl ⟨(QL h3).symm,j,by omega,hh⟩
 cases h3
def G5(hnr:∀i,Nr (nx l i))(hst:∀i,nx l i≠nx l (i+1)){i:Nat}(hi:i<l.length)(hn:l.length<n)(h5:5<n)(hl:l.length<100) :
  bH (zb n l (i:Int) (nx l i).1 (nx l i).2 (nx l (i+1)).1 (nx l (i+1)).2) n 0=some (bL (D9 l (.inr (.inl ())) i) (.inl ()) (i-1) 0):=by
 classical
 have hne:l≠[]:=by rintro rfl; cases hi
 have e0:S6 ((i:Int)-1)=(i:Int)-1:=aC (by omega) (by omega)
 refine cQ (len:=i-1) (fun j hj=>?_) ?_ (i-1) 0 n (by omega) (by omega)
 ·have e1:S6 ((l.length:Int)-1)=(l.length:Int)-1:=aC (by omega) (by omega)
  unfold zb D9
  dsimp only
  rw[aF (by omega),aA (by omega),aY,jT (by omega),ai]
  dsimp only
  rw[aw (by omega),jq j (by omega) hl]
  try dsimp only
  rw[e0,aE (by omega),er,ai,e1,<-Ro]
  by_cases h:(j:Int)=0/\(i:Int)=(l.length:Int)-1
  rw[aF h,ai,QF (fun g:AJ l i j=>g.1 ⟨by omega,by omega⟩)]
  rw[aE h,DQ n _ _ (hnr _) (hnr _) (hnr _) (hnr _) (hst _) (hst _) h5,qT,ai]
  by_cases g:nF (nx l j) (nx l (j+1)) (nx l i) (nx l (i+1))=0
  rw[QM g,Rv,gw,ai,QF (fun k:AJ l i j=>k.2 g)]
  rw[QO g,Rq,iz,ai,QH (show AJ l i j from⟨fun k=>h ⟨by omega,by omega⟩,g⟩)]
 ·unfold zb
  dsimp only
  rw[aF (by omega),aA (by omega),aY,jT (by omega),ai]
  dsimp only
  rw[aw (by omega),jq (i-1) (by omega) hl]
  try dsimp only
  rw[e0,aF (by omega),ai]
def Hd(hnr:∀i,Nr (nx l i))(hst:∀i,nx l i≠nx l (i+1))(hn:l.length<n)(h5:5<n)(hl:l.length<100):bH (yY n l) n 0=some (bL (kL l) (.inr ()) l.length 0):=by
 classical
 refine cQ (len:=l.length) (fun i hi=>?_) ?_ l.length 0 n (by omega) hn
 unfold yY kL
 dsimp only
 rw[aF (by omega),aA hi,aY,jT hi,ai]
 dsimp only
 rw[aw (by omega),jq i hi hl]
 dsimp only
 rw[ai,G5 n hnr hst hi hn h5 hl,ai];rcases Mh (l:=l) (r:=(.inr (.inl ()):TP⊕TP⊕TP)) (e:=.inl ()) (by simp) (i:=i) with⟨h1,h2⟩|⟨h1,h2⟩
 rw[h1,QH h2]; rfl
 rw[h1,QF h2]; rfl
 unfold yY
 dsimp only
 rw[aE (by omega)]
def jU{f:Nat->TN (Int⊕TP)}(hf:∀j r,f j=some r->r≠.inr ()){k:Nat}(h:bL f (.inr ()) k 0=.inr ()):∀j,j<k->f j=none:=by
 rcases cA (f:=f) (e:=.inr ()) k 0 with⟨h1,_⟩|⟨j,_,_,h3⟩
 exact fun j hj=>h1 j (by omega) (by omega)
 rw[h] at h3; exact Q1 rfl (hf j _ h3)
def A6{P:I2->Prop}(hl:0<l.length)(h:∀i,i<l.length->P (nx l i))(i:Nat):P (nx l i):=by
 rw[<-w8]; exact h _ (Ru _ hl)
def qt{i:Nat}:nx l (i%l.length+1)=nx l (i+1):=by unfold nx; rw[Nat.mod_add_mod]
def AM(hl:0<l.length)(h:bL (lh l) (.inr ()) l.length 0=.inr ()):∀i,Nr (nx l i):=by
 refine A6 hl fun i hi=>?_;have:=jU (fun j r hr=>by unfold lh at hr; split at hr<;>cases hr; simp) h i hi
 unfold lh at this
 split at this
 cases this
 rename_i g; exact oW.1 g
def Hi(hl:0<l.length)(h:bL (jt l) (.inr ()) l.length 0=.inr ()):∀i,nx l i≠nx l (i+1):=fun i=>by
 have:=jU (fun j r hr=>by unfold jt at hr; split at hr<;>cases hr; simp) h (i%l.length) (Ru _ hl)
 unfold jt at this
 split at this
 cases this
 rename_i g;rw[w8,qt] at g;exact g
def BM(v:Int)(h:bL (lh l) (.inr ()) l.length 0=.inl v):0<=v:=by
 rcases cA (f:=lh l) (e:=.inr ()) l.length 0 with⟨_,h2⟩|⟨j,_,_,h3⟩
 rw[h] at h2; cases h2
 rw[h] at h3;unfold lh at h3
 split at h3
 cases h3; omega
 cases h3
def K7(h64:∀x∈l,lD x.1/\lD x.2)(hn:l.length<n)(h5:41<n):Ov n l=some (uA l):=by
 unfold Ov uA;rw[p6,ai,<-Bool.decide_or]
 by_cases h:l.length<3\/40<l.length
 rw[aF (by omega),QH h]
 ·have h64':∀i,lD (nx l i).1/\lD (nx l i).2:=A6 (P:=fun x=>lD x.1/\lD x.2) (by omega) fun i hi=>by
   refine h64 _ ?_;unfold nx;rw[R9 hi,QN,QG hi];exact Q5 hi
  rw[aE (by omega),QF h,EE n h64' hn (by omega),ai]
  cases h1:bL (lh l) (.inr ()) l.length 0 with
  | inl v =>
   have:=BM v h1
   dsimp only
   rw[ai,aF this]
  | inr _ =>
   have hnr:=AM (by omega) h1
   dsimp only
   rw[ai,aE (by omega),ai,G6 n hn (by omega),ai]
   cases h2:bL (jt l) (.inr ()) l.length 0 with
   | inl v=>rfl
   | inr _ =>
    have hst:=Hi (by omega) h2
    dsimp only
    rw[ai]
    dsimp only
    rw[ai,G1 n hnr hn (by omega),ai]
    cases h3:bL (jZ l) (.inr ()) l.length 0 with
    | inl v=>rfl
    | inr _ =>
     dsimp only
     rw[ai]
     dsimp only
     rw[ai,Hd n hnr hst hn (by omega) (by omega),ai]
     cases h4:bL (kL l) (.inr ()) l.length 0<;>rfl
def tB(l:TO I2):Prop:=(uA l).1<=0
open Classical in
def DN(h64:∀x∈l,lD x.1/\lD x.2)(hn:l.length<n)(h5:41<n):MC n l=some (if tB l then 0 else 140):=by
 unfold MC tB;rw[K7 n h64 hn h5,ai];obtain⟨a,b⟩:=uA l
 dsimp only
 by_cases h:0<a
 rw[aF h,S8]
 rw[aE h,S9]
end
end
section
open Go Go.Ab Go.Ab.W Go.Ab.B Jd
structure Ok(l:TO I2):Prop where
 len:l.length<=40
 nr:∀i,Nr (nx l i)
 vr:VR l
def mP{ρ:Type}{f:Nat->TN ρ}{e:ρ}{k i:Nat}(h:∀j,i<=j->j<i+k->f j=none):bL f e k i=e:=by
 rcases cA (f:=f) (e:=e) k i with⟨_,h2⟩|⟨j,h1,h2,h3⟩
 exact h2
 rw[h j h1 h2] at h3; cases h3
def DJ{i L:Nat}(hL:0<L):((i+1)%L+L-1)%L=i%L:=by
 have h:=Nat.div_add_mod (i+1) L;have:((i+1)%L+L-1)+L*((i+1)/L)=i+L:=by omega
 rw[<-Nat.add_mul_mod_self_left ((i+1)%L+L-1) L ((i+1)/L),this,Nat.add_mod_right]
def Ok.tB{l:TO I2}(h:Ok l):tB l:=by
 have hn:=h.vr.n3;have hl:=h.len;unfold Go.Proofs.Ytmndpgfbkicndaa.tB uA;rw[S8,mP (f:=lh l) fun j _ _=>by unfold lh; rw[QF (oW.2 (h.nr j))]]
 dsimp only
 rw[mP (f:=jt l) fun j _ _=>by unfold jt; rw[QF (h.vr.still j)]]
 dsimp only
 rw[mP (f:=jZ l) fun j _ hj=>by
  unfold jZ;have:=h.vr.spike (j+l.length-1);rw[show j+l.length-1+1=j+l.length by omega,show j+l.length-1+2=(j+1)+l.length by omega,jD l (Nat.add_mod_right j l.length),jD l (Nat.add_mod_right (j+1) l.length)] at this
  rw[QF this]]
 dsimp only
 rw[mP (f:=kL l) fun j _ hj=>by
  unfold kL;rw[QF];rintro⟨t,ht,h1,h2⟩;exact h2 (zL.2 (h.vr.meet t j ht (by omega) fun e=>h1 ⟨e.1,by omega⟩))]
 exact Int.le_refl 0
def tB.ok{l:TO I2}(h:tB l):Ok l:=by
 unfold Go.Proofs.Ytmndpgfbkicndaa.tB uA at h
 split at h
 exact Q1 (show(1:Int)<=0 from h) (by decide)
 ·rename_i hl;cases h1:bL (lh l) (.inr ()) l.length 0 with
  | inl v=>rw[h1] at h; exact Q1 (show(2:Int)<=0 from h) (by decide)
  | inr _ =>
   rw[h1] at h
   dsimp only at h
   cases h2:bL (jt l) (.inr ()) l.length 0 with
   | inl v=>rw[h2] at h; exact Q1 (show(3:Int)<=0 from h) (by decide)
   | inr _ =>
    rw[h2] at h
    dsimp only at h
    cases h3:bL (jZ l) (.inr ()) l.length 0 with
    | inl v=>rw[h3] at h; exact Q1 (show(4:Int)<=0 from h) (by decide)
    | inr _ =>
     rw[h3] at h
     dsimp only at h
     cases h4:bL (kL l) (.inr ()) l.length 0 with
     | inl v=>rw[h4] at h; exact Q1 (show(5:Int)<=0 from h) (by decide)
     | inr _ =>
      have hL:0<l.length:=by omega
      refine⟨by omega,AM hL h1,by omega,Hi hL h2,fun i=>?_,fun j i hji hi hn=>?_⟩
      have:=jU (fun j r hr=>by unfold jZ at hr; split at hr<;>cases hr; simp) h3 ((i+1)%l.length) (Ru _ hL)
      unfold jZ at this
      split at this
      cases this
      rename_i g;rw[jD l (DJ hL),w8,qt] at g;exact g
      have:=jU (fun j r hr=>by unfold kL at hr; split at hr<;>cases hr; simp) h4 i hi
      unfold kL at this
      split at this
      cases this
      rename_i g;refine zL.1 (QI fun e=>g ⟨j,hji,fun k=>hn ⟨k.1,by omega⟩,e⟩)
def qZ{l:TO I2}:tB l↔Ok l:=⟨tB.ok,Ok.tB⟩
section
variable(n:Nat){l:TO Nat}(hb:∀ x∈l, x < 256)(x5 x6:Int)(x7:Nat)(x8 x9:Bool)
include hb
end
end
section
open Go Go.Ab Go.Ab.W Go.Ab.B Jd
section
variable{l:TO Nat}
end
structure Dr(l:TO Nat)(x5 x6:Int)(x7:Nat):Prop where
 b:∀x∈l,x<256
 x : -32768<=x5/\x5<=32767
 y : -32768<=x6/\x6<=32767
 s:x7<256
end
section
open Go Go.Ab Go.Ab.W Go.Ab.B Jd
def OP(l:TO I2):Prop:=∀q∈l,lD q.1/\lD q.2
structure Bd(x2 x3:Nat)(x4 x5:Int):Prop where
 at_:x2<256
 to:x3<256
 x:lD x4
 y:lD x5
end
section
open Go Go.Ab Go.Ab.W Go.Ab.B Jd
def fI{σ τ ρ:Type}{B:τ->TN (τ⊕ρ)}{len:Nat}(st:Nat->σ->τ)(inv:Nat->σ->Prop)(Post:ρ->Prop)
  (hB:∀i s,i<len->inv i s->(∃s',B (st i s)=some (.inl (st (i+1) s'))/\inv (i+1) s')\/∃r,B (st i s)=some (.inr r)/\Post r)
  (hE:∀s,inv len s->∃r,B (st len s)=some (.inr r)/\Post r):∀(k i:Nat) (s:σ) (n:Nat),i+k=len->k<n->inv i s->∃r,bH B n (st i s)=some r/\Post r
 | 0,i,s,n+1,h,_,hi=>by
  rw[RV] at h; subst h;obtain⟨r,h1,h2⟩:=hE s hi;exact⟨r,fq h1,h2⟩
 | k+1,i,s,n+1,h,hn,hi=>by
  rcases hB i s (by omega) hi with⟨s',h1,h2⟩|⟨r,h1,h2⟩
  rw[fK h1]; exact fI st inv Post hB hE k (i+1) s' n (by omega) (by omega) h2
  exact⟨r,fq h1,h2⟩
def xN{f:Nat->Int}(h:∀i,-8000000000000<=f i/\f i<=8000000000000):∀n:Nat,-(8000000000000*(n:Int))<=bo n f/\bo n f<=8000000000000*(n:Int)
 | 0=>by simp[bo]
 | n+1=>by
  have h1:=xN h n;have h2:=h n;simp only[bo];omega
section
variable{l:TO I2}(n:Nat)
def Nc{a b o:I2}(ha:Nr a)(hb:Nr b)(ho:Nr o) : -8000000000000<=(a.1-o.1)*(b.2-o.2)-(a.2-o.2)*(b.1-o.1)/\(a.1-o.1)*(b.2-o.2)-(a.2-o.2)*(b.1-o.1)<=8000000000000:=by
 unfold Nr at ha hb ho;have m1:=gD (B:=2000000) (C:=2000000) (u:=a.1-o.1) (v:=b.2-o.2) (by decide) (by omega) (by omega) (by omega) (by omega)
 have m2:=gD (B:=2000000) (C:=2000000) (u:=a.2-o.2) (v:=b.1-o.1) (by decide) (by omega) (by omega) (by omega) (by omega)
 omega
open Classical in
noncomputable def side (l:TO I2) (p:I2):Int:=if ∃i,i<l.length/\cz (nx l i) (nx l (i+1)) p then 1 else if dh l p=0 then 0 else 2
def zP(l:TO I2)(p:I2):∀i:Nat,-(i:Int)<=bo i (fun i=>wi (nx l i) (nx l (i+1)) p)/\bo i (fun i=>wi (nx l i) (nx l (i+1)) p)<=(i:Int)
 | 0=>by simp[bo]
 | i+1=>by
  have h1:=zP l p i;have h2:=A1 (nx l i) (nx l (i+1)) p;simp only[bo];omega
open Classical in
def KU (h64:OP l) {p:I2} (hp:lD p.1/\lD p.2) (hn:l.length<n) (h5:41<n):MF n l p.1 p.2=some (if tB l then(if Fa p then(0,2) else(side l p,0)) else(0,140)):=by
 unfold MF;rw[DN n h64 hn h5,ai]
 by_cases h:tB l
 ·have hok:=qZ.1 h;have hL:=hok.len;have h3:=hok.vr.n3;have hnr:=hok.nr;rw[QH h,QH h,show(!decide ((0:Int)=0))=false from rfl,gw,pZ n hp.1 hp.2,ai]
  by_cases hf:Fa p
  rw[aF (show Fa (p.1,p.2) from hf),QH hf]
  ·have hpn:Nr p:=oW.1 hf;rw[aE (show ¬Fa (p.1,p.2) from hf),QF hf,ai]
   have L:∃r,bH (s8 n l p.1 p.2) n (((0:Nat):Int),(0:Int))=some r/\match r with
     | .inl _=>∃i,i<l.length/\cz (nx l i) (nx l (i+1)) p
     | .inr w=>(∀i,i<l.length->¬cz (nx l i) (nx l (i+1)) p)/\w=dh l p:=by
    refine fI (len:=l.length) (fun i (s:Int)=>((i:Int),s)) (fun i s=>(∀j,j<i->¬cz (nx l j) (nx l (j+1)) p)/\s=bo i fun i=>wi (nx l i) (nx l (i+1)) p) _ (fun i s hi hs=>?_) (fun s hs=>?_) l.length 0 0 n (by omega) hn ⟨fun j hj=>Q1 hj (Nat.not_lt_zero _),rfl⟩
    ·have hw:=zP l p i;have hwi:=A1 (nx l i) (nx l (i+1)) p;have hbase:s8 n l p.1 p.2 ((i:Int),s)=if cz (nx l i) (nx l (i+1)) p then some (.inr (.inl s)) else some (.inl (((i+1:Nat):Int),s+wi (nx l i) (nx l (i+1)) p)):=by
      unfold s8
      try dsimp only
      rw[aF (by omega),aA hi,aY,jT hi,ai]
      try dsimp only
      rw[aw (by omega),jq i hi (by omega)]
      try dsimp only
      rw[Aj n _ (hnr i) (hnr (i+1)) hpn (hok.vr.still i) (by omega),ai]
      by_cases hb:cz (nx l i) (nx l (i+1)) p
      rw[aF hb,ai,QH hb]
      rw[aE hb,QF hb,nK n (hnr i) (hnr (i+1)) hpn,ai,er,er,ai];have s1:=hU (z:=ti (nx l i) (nx l (i+1)) p);have s2:=pO (z:=ti (nx l i) (nx l (i+1)) p);unfold wi
      by_cases c1:(nx l i).2<=p.2/\p.2<(nx l (i+1)).2/\0<ti (nx l i) (nx l (i+1)) p
      rw[QH c1,QM c1.1,QM c1.2.1,QM (s1.2 c1.2.2),RE,RE,iz,ai,aC (by rw[hs.2]; omega) (by rw[hs.2]; omega)]
      have e1:(decide ((nx l i).2<=p.2) &&(decide (p.2<(nx l (i+1)).2)&&decide (0<sg (ti (nx l i) (nx l (i+1)) p))))=false:=by
       rw[<-Ro,<-Ro]; exact QO fun g=>c1 ⟨g.1,g.2.1,s1.1 g.2.2⟩
      rw[QF c1,e1,gw,er,er,ai]
      by_cases c2:(nx l (i+1)).2<=p.2/\p.2<(nx l i).2/\ti (nx l i) (nx l (i+1)) p<0
      rw[QH c2,QM c2.1,QM c2.2.1,QM (s2.2 c2.2.2),RE,RE,iz,ai,aC (by rw[hs.2]; omega) (by rw[hs.2]; omega)]
      rfl
      have e2:(decide (p.2<(nx l i).2) &&(decide ((nx l (i+1)).2<=p.2)&&decide (sg (ti (nx l i) (nx l (i+1)) p)<0)))=false:=by
       rw[<-Ro,<-Ro]; exact QO fun g=>c2 ⟨g.2.1,g.1,s2.1 g.2.2⟩
      rw[QF c2,e2,gw,ai,Int.add_zero]
     by_cases hb:cz (nx l i) (nx l (i+1)) p
     exact .inr ⟨.inl s,by rw[hbase,QH hb],⟨i,hi,hb⟩⟩
     refine .inl ⟨s+wi (nx l i) (nx l (i+1)) p,by rw[hbase,QF hb],fun j hj=>?_,by rw[hs.2]; rfl⟩
     by_cases e:j=i
     rw[e]; exact hb
     exact hs.1 j (by omega)
    ·refine⟨.inr s,?_,hs.1,hs.2⟩;unfold s8
     try dsimp only
     rw[aE (by omega)]
   obtain⟨r,h1,h2⟩:=L;have h1':bH (s8 n l p.1 p.2) n (0,0)=some r:=h1;rw[h1',ai];unfold side;cases r with
   | inl s =>
    dsimp only at h2
    rw[QH h2]
    rfl
   | inr w =>
    obtain⟨g1,g2⟩:=h2;rw[QF (fun⟨i,a,b⟩=>g1 i a b)]
    try dsimp only
    rw[ai]
    try dsimp only
    rw[g2]
    by_cases e:dh l p=0
    rw[QM e,Rv,gw,QH e]
    rw[QO e,Rq,iz,QF e]
 rw[QF h,QF h]; rfl
end
end
end Go.Proofs.Ytmndpgfbkicndaa
end
section
namespace Go.Proofs.Ytmndpgfbkicndaa
open Go Go.Ab Go.Ab.W Go.Ab.B Jd
def Nw(p:I2):Prop:=-4000000<=p.1/\p.1<=4000000/\-4000000<=p.2/\p.2<=4000000
def Nf{a b c:I2}(ha:Nw a)(hb:Nw b)(hc:Nw c) :
  S6 (S6 ((S6 (b.1-a.1))*(S6 (c.2-a.2)))-S6 ((S6 (b.2-a.2))*(S6 (c.1-a.1))))=ti a b c:=by
 unfold Nw at ha hb hc;have m1:=gD (B:=8000000) (C:=8000000) (u:=b.1-a.1) (v:=c.2-a.2) (by decide) (by omega) (by omega) (by omega) (by omega)
 have m2:=gD (B:=8000000) (C:=8000000) (u:=b.2-a.2) (v:=c.1-a.1) (by decide) (by omega) (by omega) (by omega) (by omega)
 rw[aC (x:=b.1-a.1) (by omega) (by omega),aC (x:=c.2-a.2) (by omega) (by omega),aC (x:=b.2-a.2) (by omega) (by omega),aC (x:=c.1-a.1) (by omega) (by omega)]
 unfold ti;generalize(b.1-a.1)*(c.2-a.2)=u at *;generalize(b.2-a.2)*(c.1-a.1)=v at *;rw[aC (x:=u) (by omega) (by omega),aC (x:=v) (by omega) (by omega),aC (by omega) (by omega)]
section
variable{l:TO I2}(n:Nat)
def zv{p:I2}(hnr:∀i,Nw (nx l i))(hp:Nw p)(hL:l.length<100)(hn:l.length<n):I8 n l p.1 p.2=some (side l p):=by
 have L:∃r,bH (rI n l p.2 p.1) n ((0:Int),((0:Nat):Int))=some r/\match r with
   | .inl _=>∃i,i<l.length/\cz (nx l i) (nx l (i+1)) p
   | .inr w=>(∀i,i<l.length->¬cz (nx l i) (nx l (i+1)) p)/\w=dh l p:=by
  refine fI (len:=l.length) (fun i (s:Int)=>(s,(i:Int))) (fun i s=>(∀j,j<i->¬cz (nx l j) (nx l (j+1)) p)/\s=bo i fun i=>wi (nx l i) (nx l (i+1)) p) _ (fun i s hi hs=>?_) (fun s hs=>?_) l.length 0 0 n (by omega) hn ⟨fun j hj=>Q1 hj (Nat.not_lt_zero _),rfl⟩
  ·have hw:=zP l p i;have hwi:=A1 (nx l i) (nx l (i+1)) p;have hbase:rI n l p.2 p.1 (s,(i:Int))=if cz (nx l i) (nx l (i+1)) p then some (.inr (.inl ())) else some (.inl (s+wi (nx l i) (nx l (i+1)) p,((i+1:Nat):Int))):=by
    unfold rI
    try dsimp only
    rw[aF (by omega),aA hi,aY,jT hi,ai]
    try dsimp only
    rw[aw (by omega),jq i hi (by omega)]
    try dsimp only
    rw[ai,ai,Nf (hnr i) (hnr (i+1)) hp];have hB:(decide (ti (nx l i) (nx l (i+1)) p=0) &&(decide (mi (nx l i).1 (nx l (i+1)).1<=p.1) &&(decide (p.1<=ma (nx l i).1 (nx l (i+1)).1) &&(decide (mi (nx l i).2 (nx l (i+1)).2<=p.2)&&decide (p.2<=ma (nx l i).2 (nx l (i+1)).2)))))=decide (cz (nx l i) (nx l (i+1)) p):=by
     rw[mu,mu,lI,lI,<-Ro,<-Ro,<-Ro,<-Ro,decide_eq_decide];exact Iff.rfl
    rw[er,er,er,er,hB,ai]
    by_cases hb:cz (nx l i) (nx l (i+1)) p
    rw[aF hb,ai,QH hb]
    rw[aE hb,QF hb,er,er,ai];unfold wi
    by_cases c1:(nx l i).2<=p.2/\p.2<(nx l (i+1)).2/\0<ti (nx l i) (nx l (i+1)) p
    rw[QH c1,QM c1.1,QM c1.2.1,QM c1.2.2,RE,RE,iz,ai,aC (by rw[hs.2]; omega) (by rw[hs.2]; omega)]
    have e1:(decide ((nx l i).2<=p.2) &&(decide (p.2<(nx l (i+1)).2)&&decide (0<ti (nx l i) (nx l (i+1)) p)))=false:=by
     rw[<-Ro,<-Ro]; exact QO fun g=>c1 ⟨g.1,g.2.1,g.2.2⟩
    rw[QF c1,e1,gw,er,er,ai]
    by_cases c2:(nx l (i+1)).2<=p.2/\p.2<(nx l i).2/\ti (nx l i) (nx l (i+1)) p<0
    rw[QH c2,QM c2.1,QM c2.2.1,QM c2.2.2,RE,RE,iz,ai,aC (by rw[hs.2]; omega) (by rw[hs.2]; omega)]
    rfl
    have e2:(decide (p.2<(nx l i).2) &&(decide ((nx l (i+1)).2<=p.2)&&decide (ti (nx l i) (nx l (i+1)) p<0)))=false:=by
     rw[<-Ro,<-Ro]; exact QO fun g=>c2 ⟨g.2.1,g.1,g.2.2⟩
    rw[QF c2,e2,gw,ai,Int.add_zero]
   by_cases hb:cz (nx l i) (nx l (i+1)) p
   exact .inr ⟨.inl (),by rw[hbase,QH hb],⟨i,hi,hb⟩⟩
   refine .inl ⟨s+wi (nx l i) (nx l (i+1)) p,by rw[hbase,QF hb],fun j hj=>?_,by rw[hs.2]; rfl⟩
   by_cases e:j=i
   rw[e]; exact hb
   exact hs.1 j (by omega)
  ·refine⟨.inr s,?_,hs.1,hs.2⟩;unfold rI
   try dsimp only
   rw[aE (by omega)]
 obtain⟨r,h1,h2⟩:=L;have h1':bH (rI n l p.2 p.1) n (0,0)=some r:=h1;unfold I8;rw[h1',ai];unfold side;cases r with
 | inl s =>
  dsimp only at h2
  rw[QH h2]
 | inr w =>
  obtain⟨g1,g2⟩:=h2;rw[QF (fun⟨i,a,b⟩=>g1 i a b)]
  try dsimp only
  rw[g2]
  by_cases e:dh l p=0
  rw[aF e,QH e]
  rw[aE e,QF e]
end
def AY{α β ρ:Type}{B:(TO β×Int)->TN ((TO β×Int)⊕ρ)}{l:TO α}(f:α->β)(out:TO β->ρ)
  (hB:∀i x,l[i]? = some x->i<l.length->B ((l.take i).map f,(i:Int))=some (.inl ((l.take i).map f++[f x],((i+1:Nat):Int))))
  (hE:B (l.map f,(l.length:Int))=some (.inr (out (l.map f)))) {n:Nat} (hn:l.length<n):bH B n ([],0)=some (out (l.map f)):=by
 obtain⟨r,h1,h2⟩:=fI (B:=B) (len:=l.length) (fun i (s:TO β)=>(s,(i:Int))) (fun i s=>s=(l.take i).map f) (fun r=>r=out (l.map f)) (fun i s hi hs=>by
  subst hs;have hx:=QG hi;refine .inl ⟨_,hB i _ hx hi,?_⟩;rw[List.take_add_one,hx,List.map_append]; rfl) (fun s hs=>by
  subst hs;rw[List.take_length];exact⟨_,hE,rfl⟩) l.length 0 [] n (by omega) hn rfl
 subst h2;exact h1
def gA(pts:TO I2)(i:Int):I2:=pts.getD i.toNat (0,0)
def cJ(pts:TO I2)(l:TO Int)(t:Int):TO I2:=l.map fun i=>(t*(gA pts i).1,t*(gA pts i).2)
def Ix(pts:TO I2)(l:TO Int):Prop:=∀i∈l,0<=i/\i<pts.length
def fV(pts:TO I2):Prop:=∀q∈pts,Nr q
def nq{pts:TO I2}{i:Int}(h:0<=i/\i<pts.length):pts[i.toNat]? = some (gA pts i):=by
 unfold gA;rw[QN,QG (by omega)]; rfl
def kS{pts:TO I2}(hb:fV pts){i:Int}(h:0<=i/\i<pts.length):Nr (gA pts i):=hb _ (Q4 (nq h))
def dM(pts:TO I2)(l:TO Int)(t:Int):(cJ pts l t).length=l.length:=Q0 _
def bw{k:Nat}(h:k<=1000000):lim k=true:=Nat.ble_eq_true_of_le (by omega)
section
variable{pts:TO I2}{F:SO}{l:TO Int}{t:Int}(n:Nat)
def ml(hb:fV pts)(hx:Ix pts l)(ht:t=1\/t=2)(hl:l.length<=1000)(hn:l.length<n):E2 n pts F l t=some (cJ pts l t):=by
 have h:=AY (B:=zg n l pts t) (l:=l) (fun i=>(t*(gA pts i).1,t*(gA pts i).2)) (fun s=>s) (fun i x hi hil=>by
  have hxi:=hx x (Q4 hi);have hnr:=kS hb hxi;unfold Nr at hnr;unfold zg
  try dsimp only
  rw[aF (by omega),aA hil,aY,Rb,hi,ai,show ck x pts.length=true from QM ⟨hxi.1,by omega⟩,aY,nq hxi,ai]
  try dsimp only
  rw[aY,aC (by rcases ht with rfl|rfl<;>omega) (by rcases ht with rfl|rfl<;>omega),aC (by rcases ht with rfl|rfl<;>omega) (by rcases ht with rfl|rfl<;>omega),bw (by simp; omega),aY,aw (by omega)]) (by
  unfold zg
  try dsimp only
  rw[aE (by omega)]) hn
 unfold E2;rw[h,ai]; rfl
def KS{r:TO I2}(hnr:∀i,Nr (nx r i))(hL:r.length<100)(hn:r.length<n):MM n r=some (kU r):=by
 have hb:∀i,-8000000000000<=(nx r i).1*(nx r (i+1)).2-(nx r i).2*(nx r (i+1)).1/\(nx r i).1*(nx r (i+1)).2-(nx r i).2*(nx r (i+1)).1<=8000000000000:=fun i=>by
  have:=Nc (hnr i) (hnr (i+1)) (show Nr (0,0) by unfold Nr; omega)
  simpa using this
 have L:∃z,bH (ug n r) n ((0:Int),((0:Nat):Int))=some z/\z=kU r:=by
  refine fI (len:=r.length) (fun i (s:Int)=>(s,(i:Int))) (fun i s=>s=bo i fun i=>(nx r i).1*(nx r (i+1)).2-(nx r i).2*(nx r (i+1)).1) _ (fun i s hi hs=>?_) (fun s hs=>?_) r.length 0 0 n (by omega) hn rfl
  ·have hbi:=xN hb i;refine .inl ⟨s+((nx r i).1*(nx r (i+1)).2-(nx r i).2*(nx r (i+1)).1),?_,by rw[hs]; rfl⟩
   unfold ug
   try dsimp only
   rw[aF (by omega),aA hi,aY,jT hi,ai]
   try dsimp only
   rw[aw (by omega),jq i hi (by omega)]
   try dsimp only
   rw[ai];have h1:=hnr i;have h2:=hnr (i+1);have h3:=hb i;unfold Nr at h1 h2;have m1:=gD (B:=1000000) (C:=1000000) (u:=(nx r i).1) (v:=(nx r (i+1)).2) (by decide) (by omega) (by omega) (by omega) (by omega)
   have m2:=gD (B:=1000000) (C:=1000000) (u:=(nx r i).2) (v:=(nx r (i+1)).1) (by decide) (by omega) (by omega) (by omega) (by omega)
   generalize(nx r i).1*(nx r (i+1)).2=u at *;generalize(nx r i).2*(nx r (i+1)).1=v at *;rw[aC (x:=u) (by omega) (by omega),aC (x:=v) (by omega) (by omega),aC (x:=u-v) (by omega) (by omega),aC (by rw[hs]; omega) (by rw[hs]; omega)]
  ·refine⟨s,?_,hs⟩;unfold ug
   try dsimp only
   rw[aE (by omega)]
 obtain⟨z,h1,h2⟩:=L;have h1':bH (ug n r) n (0,0)=some z:=h1;unfold MM;rw[h1',ai,h2]
end
def FT(n:Nat)(p:I2):MH n p.1 p.2=some (decide (Fa p)):=by
 unfold MH Fa;rw[lI,mu,p6];refine Rf some ?_;have:(min p.1 p.2 < -1000000\/1000000<max p.1 p.2)↔(p.1 < -1000000\/1000000<p.1\/p.2 < -1000000\/1000000<p.2):=by omega
 simp only[<-this,Bool.decide_or]
def CU{α β:Type}[DecidableEq α](xs:TO (α×β))(k k':α)(v:β):fk (jA xs k v) k'=(if k'=k then some v else fk xs k')/\(jA xs k v).length=(if fk xs k=none then xs.length+1 else xs.length):=by
 have key:∀(xs:TO (α×β)) (i:Nat),(cS k xs i=none->∀j,(cS k' (xs++[(k,v)]) j).map (·.2)=if k'=k then some v else(cS k' xs j).map (·.2)) /\
   (∀p,cS k xs i=some p->i<=p.1/\∀j,(cS k' (xs.set (p.1-i) (k,v)) j).map (·.2)=if k'=k then some v else(cS k' xs j).map (·.2)):=by
  intro xs
  induction xs with
  | nil =>
   intro i;refine⟨fun _ j=>?_,fun p h=>by simp[cS] at h⟩
   simp only[RR,cS]
   by_cases h:k'=k<;>simp[h]
  | cons e xs ih =>
   intro i
   by_cases he:k=e.1
   refine⟨fun h=>by simp[cS,he] at h,fun p h=>?_⟩
   have hp:p=(i,e.2):=by simp[cS,he] at h; exact h.symm
   subst hp;refine⟨QK _,fun j=>?_⟩;simp only[SN,List.set_cons_zero,cS]
   by_cases h:k'=k
   simp[h]
   have:k'≠e.1:=fun c=>h (c.trans he.symm);simp[h,this]
   refine⟨fun h j=>?_,fun p h=>?_⟩
   have h':cS k xs (i+1)=none:=by simpa [cS,he] using h
   simp only[Sn,cS]
   by_cases h2:k'=e.1
   have:k'≠k:=fun c=>he (c.symm.trans h2);simp[h2,Ne.symm he]
   simp only[QF h2];exact(ih (i+1)).1 h' (j+1)
   have h':cS k xs (i+1)=some p:=by simpa [cS,he] using h
   obtain⟨g1,g2⟩:=(ih (i+1)).2 p h';refine⟨by omega,fun j=>?_⟩
   rw[show p.1-i=(p.1-(i+1))+1 by omega,List.set_cons_succ]
   simp only[cS]
   by_cases h2:k'=e.1
   have:k'≠k:=fun c=>he (c.symm.trans h2);simp[h2,Ne.symm he]
   simp only[QF h2];exact g2 (j+1)
 unfold fk jA;cases h:cS k xs 0 with
 | none=>exact⟨(key xs 0).1 h 0,by simp⟩
 | some p=>exact⟨((key xs 0).2 p h).2 0,by simp⟩
def uE{α β:Type}[DecidableEq α](xs:TO (α×β))(k k':α)(v:β):fk (jA xs k v) k'=if k'=k then some v else fk xs k':=(CU xs k k' v).1
def oK(l:TO I2)(i:Nat):TN (Int⊕TP):=if nx l i∈l.take i then some (.inl (i:Int)) else none
section
variable{l:TO I2}(n:Nat)
def Gz(hn:l.length<n)(hl:l.length<1000):bH (yN n l) n 0=some (bL (lh l) (.inr ()) l.length 0):=by
 refine cQ (len:=l.length) (fun i hi=>?_) ?_ l.length 0 n (by omega) hn
 unfold yN lh
 dsimp only
 rw[aF (by omega),aA hi,aY,jT hi,ai]
 dsimp only
 rw[FT,ai,aw (by omega)]
 by_cases h:Fa (nx l i)
 rw[aF h,QH h]
 rw[aE h,QF h]
 unfold yN
 dsimp only
 rw[aE (by omega)]
def NG(l:TO I2)(m:TO (I2×Bool)):Prop:=∀p,(fk m p).getD false=decide (p∈l)
def tw(m:TO (I2×Bool))(k p:I2):(fk (jA m k true) p)=if p=k then some true else fk m p:=uE m k p true
def EB(hn:l.length<n)(hl:l.length<1000):bH (qb n l) n ([],0)=some (bL (oK l) (.inr ()) l.length 0):=by
 have key:∀(k i:Nat) (m:TO (I2×Bool)) (f:Nat),i+k=l.length->k<f->NG (l.take i) m->bH (qb n l) f (m,(i:Int))=some (bL (oK l) (.inr ()) k i):=by
  intro k
  induction k with
  | zero =>
   intro i m f h hf hm;obtain⟨f,rfl⟩:∃g,f=g+1:=⟨f-1,by omega⟩
   have:qb n l (m,(i:Int))=some (.inr (.inr ())):=by
    unfold qb
    dsimp only
    rw[aE (by omega)]
   simp only[bH,this,bL]
  | succ k ih =>
   intro i m f h hf hm;obtain⟨f,rfl⟩:∃g,f=g+1:=⟨f-1,by omega⟩
   have hi:i<l.length:=by omega
   have hB:qb n l (m,(i:Int))=if nx l i∈l.take i then some (.inr (.inl (i:Int))) else some (.inl (jA m (nx l i) true,((i+1:Nat):Int))):=by
    unfold qb
    dsimp only
    rw[aF (by omega),aA hi,aY,jT hi,ai]
    dsimp only
    rw[ai,aw (by omega)]
    have e:=hm (nx l i);rw[show((nx l i).1,(nx l i).2)=nx l i from rfl,e]
    by_cases g:nx l i∈l.take i
    rw[aF g,QH g]
    rw[aE g,QF g]
   by_cases g:nx l i∈l.take i
   rw[QH g] at hB;simp only[bH,hB,bL,oK,QH g]
   rw[QF g] at hB;simp only[bH,hB,bL,oK,QF g];refine ih (i+1) _ f (by omega) (by omega) fun p=>?_
   have e:l.take (i+1)=l.take i++[nx l i]:=by
    rw[List.take_add_one,QG hi]
    congr 1
    unfold nx;rw[R9 hi,QN,QG hi]; rfl
   rw[tw,e]
   by_cases hp:p=nx l i
   rw[QH hp,hp]; simp
   rw[QF hp,hm p,decide_eq_decide]; simp[hp]
 exact key l.length 0 [] n (by omega) hn (by intro p; simp[fk,cS])
end
def EK(n:Nat)(o:TO Int)(h:SR)(hl:h.length<=1000)(hn:1000<n):bH (ou n [[o],h]) n (0,0)=some (((h.length+1:Nat):Int)):=by
 obtain⟨m,rfl⟩:∃m,n=m+3:=⟨n-3,by omega⟩
 have e0:ou (m+3) [[o],h] (0,0)=some (.inl (1,1)):=by
  unfold ou
  try dsimp only
  rw[aF (by simp),show ck 0 ([[o],h]:TO (SR)).length=true from rfl,aY]
  show ob (some [o]) _=_
  rw[ai,List.length_singleton]
  rfl
 have e1:ou (m+3) [[o],h] (1,1)=some (.inl (((h.length+1:Nat):Int),2)):=by
  unfold ou
  try dsimp only
  rw[aF (by simp),show ck 1 ([[o],h]:TO (SR)).length=true from rfl,aY]
  show ob (some h) _=_
  rw[ai,aC (by omega) (by omega),aE (by omega),show S6 (1+1)=2 from rfl,show((1:Int)+(h.length:Int))=((h.length+1:Nat):Int) by omega]
 have e2:ou (m+3) [[o],h] (((h.length+1:Nat):Int),2)=some (.inr ((h.length+1:Nat):Int)):=by
  unfold ou
  try dsimp only
  rw[aE (by simp)]
 simp only[bH,e0,e1,e2]
def FB(n:Nat)(o:TO Int)(h:SR)(hl:h.length<=1000)(hn:1000<n):bH (oq n [[o],h]) n ([],0)=some (o::h):=by
 obtain⟨m,rfl⟩:∃m,n=m+3:=⟨n-3,by omega⟩
 have e0:oq (m+3) [[o],h] ([],0)=some (.inl ([o],1)):=by
  unfold oq
  try dsimp only
  rw[aF (by simp),show ck 0 ([[o],h]:TO (SR)).length=true from rfl,aY]
  show ob (some [o]) _=_
  rw[ai,RR,bw (by simp),aY]
  rfl
 have e1:oq (m+3) [[o],h] ([o],1)=some (.inl (o::h,2)):=by
  unfold oq
  try dsimp only
  rw[aF (by simp),show ck 1 ([[o],h]:TO (SR)).length=true from rfl,aY]
  show ob (some h) _=_
  rw[ai,List.singleton_append,bw (by simp; omega),aY]
  rfl
 have e2:oq (m+3) [[o],h] (o::h,2)=some (.inr (o::h)):=by
  unfold oq
  try dsimp only
  rw[aE (by simp)]
 simp only[bH,e0,e1,e2]
def vp(n:Nat)(o:TO Int)(h:SR)(hl:h.length<=1000)(hn:1000<n):zD n o h=some (o::h):=by
 unfold zD OU;rw[EK n o h hl hn,ai,aE (by omega)]
 have ew:S6 (((h.length+1:Nat):Int)-(S6 (0-0)))=((h.length+1:Nat):Int):=by
  rw[show S6 (0-0)=0 from rfl,aC (by omega) (by omega)]; omega
 rw[ew,aF (by omega),fL (by omega),Rb,bw (by omega),aY]
 have eb:okB 0 0 (h.length+1)=true:=QM ⟨Int.le_refl 0,Int.le_refl 0,by omega⟩
 rw[eb,aY,fL (by omega),ai,ai,show S7=0 from rfl,List.take_zero,FB n o h hl hn,ai,ai]
def bG{α:Type}{l:TO α}{i:Nat}{x:α}(h:l[i]? = some x):l[((i:Nat):Int).toNat]? = some x:=by rw[Rb]; exact h
def bad{α:Type}(p:α->Bool)(l:TO α)(i:Nat):TN (TP⊕TP):=match l[i]? with|some x=>if p x then none else some (.inl ())|none=>none
def w9{α:Type}(p:α->Bool)(l:TO α):bL (bad p l) (.inr ()) l.length 0=if l.all p then .inr () else .inl ():=by
 rcases cA (f:=bad p l) (e:=.inr ()) l.length 0 with⟨h1,h2⟩|⟨j,_,h2,h3⟩
 rw[h2,QH];rw[QS];intro x hx;obtain⟨j,hj,e⟩:=Ri.1 hx;have:=h1 j (by omega) (by omega)
 unfold bad at this;rw[QG hj,e] at this;refine QI fun hc=>?_
 dsimp only at this
 rw[QF hc] at this; cases this
 unfold bad at h3;rw[QG (by omega:j<l.length)] at h3
 dsimp only at h3
 by_cases g:p l[j]=true
 rw[QH g] at h3; cases h3
 rw[QF g] at h3;rw[QF (fun h=>g (QS.1 h _ (Q5 _)))];exact(QL h3).symm
def Lq(n:Nat){l:TO Int}(h0:0<l.length)(hl:l.length<1000)(hn:l.length<n):∃m,MJ n l=some m/\m∈l/\∀x∈l,m<=x:=by
 have h00:l[0]? = some l[0]:=QG h0;obtain⟨r,h1,h2⟩:=fI (B:=zw n l) (len:=l.length) (fun i (s:Int)=>(s,(i:Int))) (fun i s=>s∈l/\∀x∈l.take i,s<=x) (fun r=>r∈l/\∀x∈l,r<=x) (fun i s hi hs=>by
  have hx:=QG hi;refine .inl ⟨mi s l[i],?_,?_,fun x hxm=>?_⟩
  ·unfold zw
   try dsimp only
   rw[aF (by omega),aA hi,aY,bG hx,ai,aw (by omega)]
  rw[lI];rcases Int.le_total s l[i] with h|h
  rw[Int.min_eq_left h]; exact hs.1
  rw[Int.min_eq_right h]; exact Q5 _
  rw[List.take_add_one,hx,Q3] at hxm;rw[lI];rcases hxm with h|h
  have:=hs.2 x h; omega
  simp at h; omega) (fun s hs=>by
  rw[List.take_length] at hs;refine⟨s,?_,hs⟩;unfold zw
  try dsimp only
  rw[aE (by omega)]) (l.length-1) 1 l[0] n (by omega) (by omega) ⟨Q5 _,fun x hx=>by
   rw[List.take_add_one,h00] at hx;simp at hx; omega⟩
 refine⟨r,?_,h2⟩;unfold MJ;rw[aE (by omega),show ck 0 l.length=true from QM ⟨by omega,by omega⟩,aY,show S7=0 from rfl,h00,ai,show((l[0],1):Int×Int)=(l[0],((1:Nat):Int)) from rfl,h1,ai]
def Mc(n:Nat){l:TO Int}(h0:0<l.length)(hl:l.length<1000)(hn:l.length<n):∃m,CC n l=some m/\m∈l/\∀x∈l,x<=m:=by
 have h00:l[0]? = some l[0]:=QG h0;obtain⟨r,h1,h2⟩:=fI (B:=xi n l) (len:=l.length) (fun i (s:Int)=>(s,(i:Int))) (fun i s=>s∈l/\∀x∈l.take i,x<=s) (fun r=>r∈l/\∀x∈l,x<=r) (fun i s hi hs=>by
  have hx:=QG hi;refine .inl ⟨ma s l[i],?_,?_,fun x hxm=>?_⟩
  ·unfold xi
   try dsimp only
   rw[aF (by omega),aA hi,aY,bG hx,ai,aw (by omega)]
  rw[mu];rcases Int.le_total s l[i] with h|h
  rw[Int.max_eq_right h]; exact Q5 _
  rw[Int.max_eq_left h]; exact hs.1
  rw[List.take_add_one,hx,Q3] at hxm;rw[mu];rcases hxm with h|h
  have:=hs.2 x h; omega
  simp at h; omega) (fun s hs=>by
  rw[List.take_length] at hs;refine⟨s,?_,hs⟩;unfold xi
  try dsimp only
  rw[aE (by omega)]) (l.length-1) 1 l[0] n (by omega) (by omega) ⟨Q5 _,fun x hx=>by
   rw[List.take_add_one,h00] at hx;simp at hx; omega⟩
 refine⟨r,?_,h2⟩;unfold CC;rw[aE (by omega),show ck 0 l.length=true from QM ⟨by omega,by omega⟩,aY,show S7=0 from rfl,h00,ai,show((l[0],1):Int×Int)=(l[0],((1:Nat):Int)) from rfl,h1,ai]
def qX(m:Nat)(l:TO Int):Bool:=decide (3<=l.length/\l.length<=40/\∀i∈l,0<=i/\i<m)
section
variable{pts:TO I2}(n:Nat)
def D7{rs:SR}(hr:rs.length<1000)(hn:1000<n):bH (xT n rs pts) n 0=some (if rs.all (qX pts.length) then .inr () else .inl ()):=by
 rw[<-w9];refine cQ (len:=rs.length) (fun i hi=>?_) ?_ rs.length 0 n (by omega) (by omega)
 ·have hx:=QG hi;generalize rs[i]=l at hx;unfold xT bad;rw[hx]
  try dsimp only
  rw[aF (by omega),aA hi,aY,bG hx,ai,aw (by omega)]
  have key:(br (decide ((l.length:Int)<3)) (some true) (br (decide (40<(l.length:Int))) (some true) (ob (MJ n l) fun r0=>br (decide (r0<0)) (some true) (ob (CC n l) fun r1=>some (decide ((pts.length:Int)<=r1))))))=some (!qX pts.length l):=by
   by_cases h0:(l.length:Int)<3
   rw[aF h0];unfold qX;rw[QO (by omega)]; rfl
   rw[aE h0]
   by_cases h1:40<(l.length:Int)
   rw[aF h1];unfold qX;rw[QO (by omega)]; rfl
   rw[aE h1];obtain⟨a,e0,e2,e1⟩:=Lq n (l:=l) (by omega) (by omega) (by omega)
   obtain⟨b,f0,f1,f2⟩:=Mc n (l:=l) (by omega) (by omega) (by omega)
   rw[e0,ai]
   by_cases h2:a<0
   rw[aF h2];unfold qX;rw[QO (fun h=>by have:=h.2.2 a e2; omega)]; rfl
   rw[aE h2,f0,ai];unfold qX;rw[<-decide_not];refine Rf some (decide_eq_decide.2 ⟨fun h g=>by have:=g.2.2 b f1; omega,fun h=>?_⟩)
   refine QI fun hc=>h ⟨by omega,by omega,fun x hx=>?_⟩
   have:=e1 x hx;have:=f2 x hx;omega
  rw[key,ai];cases qX pts.length l
  rw[show(!false)=true from rfl,iz]; rfl
  rw[show(!true)=false from rfl,gw]; rfl
 ·unfold xT
  try dsimp only
  rw[aE (by omega)]
end
abbrev Fc:=TO Int×SR
def iB(p:Fc->Bool)(F:TO Fc)(i:Nat):TN (Int⊕TP):=match F[i]? with|some x=>if p x then none else some (.inl (i:Int))|none=>none
def okF(m:Nat)(f:Fc):Bool:=decide (f.2.length<=8) &&(f.1::f.2).all (qX m)
noncomputable instance (l:TO I2):Decidable (tB l):=by unfold tB; infer_instance
noncomputable def NL (pts:TO I2) (f:Fc):Bool:=(f.1::f.2).all fun r=>decide (tB (cJ pts r 1))
section
variable{pts:TO I2}{F:TO Fc}(n:Nat)
def FG(hF:F.length<1000)(hn:1000<n):bH (zj n F pts) n 0=some (bL (iB (okF pts.length) F) (.inr ()) F.length 0):=by
 refine cQ (len:=F.length) (fun i hi=>?_) ?_ F.length 0 n (by omega) (by omega)
 ·have hx:=QG hi;generalize F[i]=f at hx;obtain⟨o,h⟩:=f;unfold zj iB okF;rw[hx]
  try dsimp only
  rw[aF (by omega),aA hi,aY,bG hx,ai]
  try dsimp only
  by_cases g:8<(h.length:Int)
  rw[aF g,ai,iz,QO (by omega)]; rfl
  rw[aE g,QM (by omega),vp n _ _ (by omega) hn,ai,D7 n (by simp; omega) hn,ai,RE,aw (by omega)]
  cases(o::h).all (qX pts.length)<;>rfl
 ·unfold zj
  try dsimp only
  rw[aE (by omega)]
def OY(pts:TO I2)(F:TO Fc):Prop:=∀f∈F,okF pts.length f=true
def fT{m:Nat}{pts:TO I2}(e:m=pts.length){r:TO Int}(h:qX m r=true):Ix pts r/\3<=r.length/\r.length<=40:=by
 have:=of_decide_eq_true h;subst e;exact⟨this.2.2,this.1,this.2.1⟩
def Fh(hb:fV pts){r:TO Int}(hx:Ix pts r):∀q∈cJ pts r 1,Nr q:=by
 intro q hq;obtain⟨i,hi,rfl⟩:=Rj.1 hq;have:=kS hb (hx i hi)
 simpa using this
def GK(hb:fV pts){rs:SR}(hr:rs.length<1000)(ho:∀r∈rs,qX pts.length r=true)(hn:1000<n):bH (xh n rs pts F) n 0=some (if rs.all (fun r=>decide (tB (cJ pts r 1))) then .inr () else .inl ()):=by
 rw[<-w9];refine cQ (len:=rs.length) (fun i hi=>?_) ?_ rs.length 0 n (by omega) (by omega)
 ·have hx:=QG hi;generalize rs[i]=r at hx;obtain⟨hix,h3,h4⟩:=fT rfl (ho r (Q4 hx));unfold xh bad;rw[hx]
  try dsimp only
  rw[aF (by omega),aA hi,aY,bG hx,ai,ml n hb hix (.inl rfl) (by omega) (by omega),ai,DN n (fun x hx=>by
   have:=Fh hb hix x hx;unfold Nr at this; unfold lD; omega) (by rw[dM]; omega) (by omega),ai,aw (by omega)]
  by_cases g:tB (cJ pts r 1)
  simp only[QH g,decide_true,Rv,ai,gw,if_true,QM g]
  simp only[QF g,QO g]; rfl
 ·unfold xh
  try dsimp only
  rw[aE (by omega)]
def oI{f:Fc}(h:okF pts.length f=true):f.2.length<=8/\∀r∈f.1::f.2,qX pts.length r=true:=by
 unfold okF at h;rw[QJ] at h;exact⟨of_decide_eq_true h.1,QS.1 h.2⟩
def F4(hb:fV pts)(ho:OY pts F)(hF:F.length<1000)(hn:1000<n):bH (yl n F pts) n 0=some (bL (iB (NL pts) F) (.inr ()) F.length 0):=by
 refine cQ (len:=F.length) (fun i hi=>?_) ?_ F.length 0 n (by omega) (by omega)
 ·have hx:=QG hi;generalize F[i]=f at hx;obtain⟨h8,h9⟩:=oI (ho f (Q4 hx));obtain⟨o,h⟩:=f;replace h8:h.length<=8:=h8;unfold yl iB NL;rw[hx]
  try dsimp only
  rw[aF (by omega),aA hi,aY,bG hx,ai]
  try dsimp only
  rw[vp n _ _ (by omega) hn,ai,GK n hb (by simp; omega) h9 hn,aw (by omega)]
  cases(o::h).all (fun r=>decide (tB (cJ pts r 1)))<;>rfl
 ·unfold yl
  try dsimp only
  rw[aE (by omega)]
end
def po(pts:TO I2)(rs:SR)(i:Nat):TN (TP⊕TP):=match rs[i]? with|some r=>if decide (i=0)==decide (0<kU (cJ pts r 1)) then none else some (.inl ())|none=>none
def ME(pts:TO I2)(f:Fc):Bool:=match bL (po pts (f.1::f.2)) (.inr ()) (f.1::f.2).length 0 with|.inl _=>false|.inr _=>true
section
variable{pts:TO I2}{F:TO Fc}(n:Nat)
def wo(hb:fV pts){r:TO Int}(hx:Ix pts r)(h3:3<=r.length)(i:Nat):Nr (nx (cJ pts r 1) i) :=
 A6 (P:=Nr) (by rw[dM]; omega) (fun i hi=>by
  refine Fh hb hx _ ?_;unfold nx;rw[R9 hi,QN,QG hi];exact Q5 _) i
def DV(hb:fV pts){rs:SR}(hr:rs.length<1000)(ho:∀r∈rs,qX pts.length r=true)(ha:∀r∈rs,kU (cJ pts r 1)≠0)(hn:1000<n):bH (ze n rs pts F) n 0=some (bL (po pts rs) (.inr ()) rs.length 0):=by
 refine cQ (len:=rs.length) (fun i hi=>?_) ?_ rs.length 0 n (by omega) (by omega)
 ·have hx:=QG hi;generalize rs[i]=r at hx;obtain⟨hix,h3,h4⟩:=fT rfl (ho r (Q4 hx));have hne:=ha r (Q4 hx);unfold ze po;rw[hx]
  try dsimp only
  rw[aF (by omega),aA hi,aY,bG hx,ai,ml n hb hix (.inl rfl) (by omega) (by omega),ai,KS n (wo hb hix h3) (by rw[dM]; omega) (by rw[dM]; omega),ai,ai,aw (by omega)]
  by_cases g:i=0
  subst g
  by_cases h:kU (cJ pts r 1)<0
  rw[QM h,QO (show ¬0<kU (cJ pts r 1) by omega)]; rfl
  rw[QO h,QM (show 0<kU (cJ pts r 1) by omega)]; rfl
  rw[QO g,QO (show ¬(i:Int)=0 by omega)]
  by_cases h:kU (cJ pts r 1)<0
  rw[QM h,QO (show ¬0<kU (cJ pts r 1) by omega)]; rfl
  rw[QO h,QM (show 0<kU (cJ pts r 1) by omega)]; rfl
 ·unfold ze
  try dsimp only
  rw[aE (by omega)]
def Gf(hb:fV pts)(ho:OY pts F)(ha:∀f∈F,∀r∈f.1::f.2,kU (cJ pts r 1)≠0)(hF:F.length<1000)(hn:1000<n):bH (xd n F pts) n 0=some (bL (iB (ME pts) F) (.inr ()) F.length 0):=by
 refine cQ (len:=F.length) (fun i hi=>?_) ?_ F.length 0 n (by omega) (by omega)
 ·have hx:=QG hi;generalize F[i]=f at hx;obtain⟨h8,h9⟩:=oI (ho f (Q4 hx));have h10:=ha f (Q4 hx);obtain⟨o,h⟩:=f;replace h8:h.length<=8:=h8;unfold xd iB ME;rw[hx]
  try dsimp only
  rw[aF (by omega),aA hi,aY,bG hx,ai]
  try dsimp only
  rw[vp n _ _ (by omega) hn,ai,DV n hb (by simp; omega) h9 h10 hn,aw (by omega)]
  cases bL (po pts (o::h)) (.inr ()) (o::h).length 0<;>rfl
 ·unfold xd
  try dsimp only
  rw[aE (by omega)]
end
end Go.Proofs.Ytmndpgfbkicndaa
end
section
namespace Jd
section
variable{n:Nat}{v:Nat->P2}
def Simple.IV(S:Simple n v){L:Int}(hL:∀i,i<n->HS n v 1 i L/\HS n v (-1) i (L-1)){p:P2}(hp:∀i,i<n->(v i).2≠p.2):W n v p=0\/W n v p=2*L-1/\(L=0\/L=1):=by
 have hn3:=S.n3;have hp':∀i,i<n->(v (i+1)).2≠p.2:=fun i hi=>by
  by_cases e:i+1=n
  rw[e,S.cl]; exact hp 0 (by omega)
  exact hp (i+1) (by omega)
 have hX:∀i,∃X:Rat,i<n->(∀q:P2,q.2=p.2->we (v i) (v (i+1)) q=if q.1<X then dd (v i) (v (i+1)) p.2 else 0)/\(dd (v i) (v (i+1)) p.2≠0->∃t,0<t/\t<1/\cv (v i) (v (i+1)) t=(X,p.2)):=fun i=>by
  by_cases hi:i<n
  obtain⟨X,h⟩:=xj (hp i hi) (hp' i hi);exact⟨X,fun _=>h⟩
  exact⟨0,fun h=>Q1 h hi⟩
 obtain⟨X,hX⟩:=Classical.axiomOfChoice hX;have hW:∀q:P2,q.2=p.2->W n v q=bo n fun i=>if q.1<X i then dd (v i) (v (i+1)) p.2 else 0:=fun q hq=>aX fun i hi=>(hX i hi).1 q hq
 by_cases hE:∃i,i<n/\(dd (v i) (v (i+1)) p.2≠0/\p.1<X i)
 obtain⟨i,i1,⟨i2,i3⟩,i4⟩:=nU (X:=X) hE;obtain⟨k,k1,⟨k2,k3⟩,k4⟩:=nU (X:=fun i=>-X i) hE;have hl:W n v p=L\/W n v p=L-1:=by
  obtain⟨t,t0,t1,t2⟩:=(hX i i1).2 i2;have key:∀σ M,0 < σ*cr (v i) (v (i+1)) (-1,0)->HS n v σ i M->W n v p=M:=by
   intro σ M hσ hM;obtain⟨e,e0,he⟩:=hM t (-1,0) t0 t1 hσ;obtain⟨x,x0,xe,xp⟩:=fN e0 (show 0<X i-p.1 by grind)
   rw[<-he x x0 (by grind),t2,hW p rfl,hW (sm (X i,p.2) (-1,0) x) (by unfold sm; grind)]
   refine aX fun j hj=>?_
   by_cases hd:dd (v j) (v (j+1)) p.2=0
   rw[hd,ite_self,ite_self]
   by_cases hx:p.1<X j
   have:=i4 j hj ⟨hd,hx⟩;rw[QH hx,QH (by unfold sm; grind)]
   rw[QF hx,QF (by unfold sm; grind)]
  by_cases h1:(v i).2<p.2/\p.2<(v (i+1)).2
  exact .inl (key 1 L (by unfold cr; grind) (hL i i1).1)
  have h2:(v (i+1)).2<p.2/\p.2<(v i).2:=by
   unfold dd at i2;rw[QF h1] at i2;exact QI fun h=>i2 (QF h)
  exact .inr (key (-1) (L-1) (by unfold cr; grind) (hL i i1).2)
 have hr:L=0\/L=1:=by
  obtain⟨t,t0,t1,t2⟩:=(hX k k1).2 k2;have key:∀σ M,0 < σ*cr (v k) (v (k+1)) (1,0)->HS n v σ k M->M=0:=by
   intro σ M hσ hM;obtain⟨e,e0,he⟩:=hM t (1,0) t0 t1 hσ;rw[<-he e e0 (by grind),t2,hW (sm (X k,p.2) (1,0) e) (by unfold sm; grind)]
   refine cC fun j hj=>?_
   by_cases hd:dd (v j) (v (j+1)) p.2=0
   rw[hd,ite_self]
   refine QF fun hx=>?_;have hx':X k+e<X j:=by unfold sm at hx; grind
   have:=k4 j hj ⟨hd,by grind⟩
   grind
  by_cases h1:(v k).2<p.2/\p.2<(v (k+1)).2
  have:=key (-1) (L-1) (by unfold cr; grind) (hL k k1).2
  exact .inr (by omega)
  have h2:(v (k+1)).2<p.2/\p.2<(v k).2:=by
   unfold dd at k2;rw[QF h1] at k2;exact QI fun h=>k2 (QF h)
  exact .inl (key 1 L (by unfold cr; grind) (hL k k1).1)
 omega
 left
 rw[hW p rfl];refine cC fun j hj=>?_
 by_cases hd:dd (v j) (v (j+1)) p.2=0
 rw[hd,ite_self]
 exact QF fun hx=>hE ⟨j,hj,hd,hx⟩
def Simple.Ft(S:Simple n v){L:Int}(hL:∀i,i<n->HS n v 1 i L/\HS n v (-1) i (L-1)){p:P2}(hp:∀i,i<n->((v i).2<=p.2/\p.2<(v (i+1)).2)\/((v (i+1)).2<=p.2/\p.2<(v i).2)->tn (v i) (v (i+1)) p≠0) :
  W n v p=0\/W n v p=2*L-1/\(L=0\/L=1):=by
 have hn3:=S.n3;have h1:Ev fun x _=>∀i,i<n->(v i).2<=p.2\/p.2+x<(v i).2:=Ev.all (P:=fun i x _=>(v i).2<=p.2\/p.2+x<(v i).2) fun i _=>by
  by_cases h:(v i).2<=p.2
  exact Ev.of fun _ _ _ _=>.inl h
  exact⟨((v i).2-p.2)/2,by grind,fun x y x0 x1 _ _=>.inr (by grind)⟩
 have h2:Ev fun x _=>∀i,i<n->(tn (v i) (v (i+1)) p<0->tn (v i) (v (i+1)) (p.1,p.2+x)<0)/\(0<tn (v i) (v (i+1)) p->0<tn (v i) (v (i+1)) (p.1,p.2+x)) :=
  Ev.all (P:=fun i x _=>(tn (v i) (v (i+1)) p<0->tn (v i) (v (i+1)) (p.1,p.2+x)<0)/\(0<tn (v i) (v (i+1)) p->0<tn (v i) (v (i+1)) (p.1,p.2+x))) fun i _=>by
   have e:∀x,tn (v i) (v (i+1)) (p.1,p.2+x)=tn (v i) (v (i+1)) p+x*((v (i+1)).1-(v i).1):=fun x=>by unfold tn; grind
   by_cases hm:tn (v i) (v (i+1)) p<0
   obtain⟨a,a0,ha⟩:=vL hm ((v (i+1)).1-(v i).1);exact⟨a,a0,fun x y x0 x1 _ _=>⟨fun _=>by rw[e]; exact ha x x0 x1,fun h=>by grind⟩⟩
   by_cases hq:0<tn (v i) (v (i+1)) p
   obtain⟨a,a0,ha⟩:=vL (A:=-tn (v i) (v (i+1)) p) (by grind) (-((v (i+1)).1-(v i).1))
   exact⟨a,a0,fun x y x0 x1 _ _=>⟨fun h=>Q1 h hm,fun _=>by rw[e]; have:=ha x x0 x1; grind⟩⟩
   exact Ev.of fun _ _ _ _=>⟨fun h=>Q1 h hm,fun h=>Q1 h hq⟩
 obtain⟨x,x0,hx⟩:=h1.and h2;obtain⟨g1,g2⟩:=hx x x x0 (by grind) x0 (by grind)
 have g1':∀i,i<n->(v (i+1)).2<=p.2\/p.2+x<(v (i+1)).2:=fun i hi=>by
  by_cases e:i+1=n
  rw[e,S.cl]; exact g1 0 (by omega)
  exact g1 (i+1) (by omega)
 have e:W n v p=W n v (p.1,p.2+x):=aX fun i hi=>by
  have a:=g1 i hi;have b:=g1' i hi;obtain⟨c1,c2⟩:=g2 i hi;have hc:=hp i hi
  by_cases k1:(v i).2<=p.2/\p.2<(v (i+1)).2
  rw[jo k1.1 k1.2,jo (by grind) (by grind)]
  exact mI ⟨c2,fun h=>by have:=hc (.inl k1); grind⟩
  by_cases k2:(v (i+1)).2<=p.2/\p.2<(v i).2
  rw[ku (v (i+1)) (v i),ku (v (i+1)) (v i),jo k2.1 k2.2,jo (by grind) (by grind),jj (v i),jj (v i)]
  rw[mI (d:=0 < -tn (v i) (v (i+1)) (p.1,p.2+x)) ⟨fun h=>by have:=c1 (by grind); grind,fun h=>by have:=hc (.inr k2); grind⟩]
  rw[eK k1 k2,eK (by grind) (by grind)]
 rw[e];exact S.IV hL fun i hi=>by have:=g1 i hi; grind
def Simple.sign(S:Simple n v):∃s:Int,(s=1\/s = -1)/\∀p:P2,(∀i,i<n->((v i).2<=p.2/\p.2<(v (i+1)).2)\/((v (i+1)).2<=p.2/\p.2<(v i).2)->tn (v i) (v (i+1)) p≠0)->W n v p=0\/W n v p=s:=by
 obtain⟨L,hL⟩:=S.along
 by_cases h:L=0\/L=1
 exact⟨2*L-1,by omega,fun p hp=>(S.Ft hL hp).imp_right And.left⟩
 exact⟨1,.inl rfl,fun p hp=>.inl ((S.Ft hL hp).resolve_right fun g=>h g.2)⟩
end
def pK(a:I2):I2:=(-a.1,-a.2)
def wj(a b p:I2):Int:=if a.2<p.2/\p.2<=b.2/\ti a b p<0 then -1 else if b.2<p.2/\p.2<=a.2/\0<ti a b p then 1 else 0
def up(p v:I2):Int:=if p.2<v.2\/(v.2=p.2/\v.1<p.1) then 1 else 0
def iE(r:TO I2)(p:I2):Int:=bo r.length fun i=>wj (nx r i) (nx r (i+1)) p
def sT{a b p:I2}(h:a.2=p.2):ti a b p=(b.2-a.2)*(a.1-p.1):=by unfold ti; grind
def uK{a b p:I2}(h:b.2=p.2):ti a b p=(b.2-a.2)*(b.1-p.1):=by unfold ti; grind
def hU{k x:Int}(h:0<k):(0<k*x↔0<x)/\(k*x<0↔x<0):=⟨kJ h,gy h⟩
def pO{k x:Int}(h:k<0):(0<k*x↔x<0)/\(k*x<0↔0<x):=by
 have e:k*x = -((-k)*x):=by grind
 have:=hU (x:=x) (show 0 < -k by omega)
 rw[e]; omega
def vD{a b p:I2}(h:ti a b p=0):wi a b p=0:=by unfold wi; rw[S8,S8]
def BQ{a b p:I2}(h:ti a b p=0):wj a b p=0:=by unfold wj; rw[S8,S8]
def Py{a b p:I2}(h:¬cz a b p):wi a b p-wj a b p=up p b-up p a:=by
 by_cases ha:a.2=p.2
 by_cases hb:b.2=p.2
 have h0:ti a b p=0:=by rw[sT ha,hb,ha]; simp
 rw[vD h0,BQ h0];have:¬(min a.1 b.1<=p.1/\p.1<=max a.1 b.1):=fun g=>h ⟨h0,g.1,g.2,by omega,by omega⟩
 unfold up
 by_cases g:a.1<p.1
 rw[QH (.inr ⟨hb,by omega⟩),QH (.inr ⟨ha,g⟩)]<;>rfl
 rw[S8,S8]<;>rfl
 have ht:=sT (b:=b) ha;have hne:a.1≠p.1:=fun e=>h (by rw[show p=a from Rz e.symm ha.symm]; exact sW a b)
 by_cases hb':p.2<b.2
 have s:=hU (k:=b.2-a.2) (x:=a.1-p.1) (by omega)
 rw[<-ht] at s;unfold wi wj up
 by_cases g:a.1<p.1
 rw[S8,S8,S8,S8,S9,S9]<;>rfl
 rw[S9,S8,S8,S9,S8]<;>rfl
 have s:=pO (k:=b.2-a.2) (x:=a.1-p.1) (by omega)
 rw[<-ht] at s;unfold wi wj up
 by_cases g:a.1<p.1
 rw[S8,S8,S8,S9,S8,S9]<;>rfl
 rw[S8,S8,S8,S8,S8,S8]<;>rfl
 by_cases hb:b.2=p.2
 have ht:=uK (a:=a) hb;have hne:b.1≠p.1:=fun e=>h (by rw[show p=b from Rz e.symm hb.symm]; exact pg a b)
 by_cases ha':p.2<a.2
 have s:=pO (k:=b.2-a.2) (x:=b.1-p.1) (by omega)
 rw[<-ht] at s;unfold wi wj up
 by_cases g:b.1<p.1
 rw[S8,S8,S8,S8,S9,S9]<;>rfl
 rw[S8,S9,S8,S8,S8,S9]<;>rfl
 have s:=hU (k:=b.2-a.2) (x:=b.1-p.1) (by omega)
 rw[<-ht] at s;unfold wi wj up
 by_cases g:b.1<p.1
 rw[S8,S8,S9,S9,S8]<;>rfl
 rw[S8,S8,S8,S8,S8,S8]<;>rfl
 by_cases ha':p.2<a.2
 by_cases hb':p.2<b.2
 unfold wi wj up;rw[S8,S8,S8,S8,S9,S9]<;>rfl
 have h0:ti a b p≠0:=fun h0=>h (mA (.inr ⟨by omega,by omega⟩) h0)
 unfold wi wj up
 by_cases g:ti a b p<0
 rw[S8,S9,S8,S8,S8,S9]<;>rfl
 rw[S8,S8,S8,S9,S8,S9]<;>rfl
 by_cases hb':p.2<b.2
 have h0:ti a b p≠0:=fun h0=>h (mA (.inl ⟨by omega,by omega⟩) h0)
 unfold wi wj up
 by_cases g:ti a b p<0
 rw[S8,S8,S9,S9,S8]<;>rfl
 rw[S9,S8,S8,S9,S8]<;>rfl
 unfold wi wj up;rw[S8,S8,S8,S8,S8,S8]<;>rfl
instance(a b p:I2):Decidable (cz a b p):=by unfold cz; infer_instance
def Lb(a b p:I2):Int:=if cz a b p then up p b-up p a else 0
def Ha(a b p:I2):wi a b p-wj a b p+Lb a b p=up p b-up p a:=by
 unfold Lb
 by_cases h:cz a b p
 rw[QH h,vD h.1,BQ h.1]; omega
 rw[QF h,<-Py h]; omega
def Co(r:TO I2)(p:I2):dh r p-iE r p+bo r.length (fun i=>Lb (nx r i) (nx r (i+1)) p)=0:=by
 have h1:=tz r.length fun i=>up p (nx r i);rw[vS,Int.sub_self] at h1;have h2:=iS r.length (fun i=>wi (nx r i) (nx r (i+1)) p-wj (nx r i) (nx r (i+1)) p) fun i=>Lb (nx r i) (nx r (i+1)) p;rw[jP] at h2;unfold dh iE;rw[<-h2,<-h1];exact aX fun i _=>Ha _ _ _
def DR{r:TO I2}{p:I2}(hp:∀i,i<r.length->¬cz (nx r i) (nx r (i+1)) p):iE r p=dh r p:=by
 have h:=Co r p;rw[cC (fun i hi=>by unfold Lb; rw[QF (hp i hi)])] at h
 omega
def Ao(a b p:I2):ti (pK a) (pK b) (pK p)=ti a b p:=by unfold ti pK; grind
def zV(a b p:I2):wi (pK a) (pK b) (pK p)=wj a b p:=by
 unfold wi wj;rw[Ao];unfold pK
 dsimp only
 by_cases h1:a.2<p.2/\p.2<=b.2/\ti a b p<0
 rw[S8,S9,QH h1]
 rw[QF h1]
 by_cases h2:b.2<p.2/\p.2<=a.2/\0<ti a b p
 rw[S9,QH h2]
 rw[S8,S8,QF h2]
def xu{r:TO I2}(h:r≠[])(p:I2):dh (r.map pK) (pK p)=iE r p:=by
 unfold dh iE;rw[Q0];exact aX fun i _=>by rw[cB _ h,cB _ h,zV]
def BC{a b c:I2}:cz (pK a) (pK b) (pK c)↔cz a b c:=by
 unfold cz;rw[Ao];unfold pK
 dsimp only
 omega
def mO{N:Int}{t:Rat}(hN:0<N)(ht:(N:Rat)*t=1)(a q:Int):((a:Rat)<=(q:Rat)*t↔a*N<=q)/\((q:Rat)*t<(a:Rat)↔q<a*N):=by
 have hN':(0:Rat)<(N:Rat):=fa.2 hN;have t0:0<t:=by
  refine QI fun h=>?_;have:=cU (show 0<=(N:Rat) by grind) (show t<=0 by grind)
  grind
 have key:(a:Rat)<=(q:Rat)*t↔a*N<=q:=by
  rw[<-Bk,RZ];constructor
  intro h;have:=bO (show 0<=(q:Rat)*t-a by grind) (show 0<=(N:Rat) by grind)
  rw[show((q:Rat)*t-a)*N=q*(N*t)-a*N by grind,ht,Rat.mul_one] at this
  grind
  intro h;have:=bO (show 0<=(q:Rat)-a*N by grind) (show 0<=t by grind)
  rw[show((q:Rat)-a*N)*t=q*t-a*(N*t) by grind,ht,Rat.mul_one] at this
  grind
 refine⟨key,?_⟩;constructor
 intro h;have:=mt key.2 (by grind)
 omega
 intro h;have:=mt key.1 (by omega)
 grind
def yh{N:Int}{t:Rat}(ht:(N:Rat)*t=1)(a b q:I2):tn (ca a) (ca b) ((q.1:Rat)*t,(q.2:Rat)*t)=((ti (cj N a) (cj N b) q:Int):Rat)*(t*t):=by
 rw[<-lO];unfold tn ca cj;simp only[RZ]
 grind
def uP{N:Int}{t:Rat}(hN:0<N)(ht:(N:Rat)*t=1)(x:Int):(0<(x:Rat)*(t*t)↔0<x)/\((x:Rat)*(t*t)<0↔x<0):=by
 have hN':(0:Rat)<(N:Rat):=fa.2 hN;have t0:0<t:=by
  refine QI fun h=>?_;have:=cU (show 0<=(N:Rat) by grind) (show t<=0 by grind)
  grind
 have tt:=bh t0 t0;have p1:∀y:Int,0<y->0<(y:Rat)*(t*t):=fun y hy=>bh (fa.2 hy) tt;have p2:∀y:Int,y<0->(y:Rat)*(t*t)<0:=fun y hy=>by
  have:=bh (show(0:Rat) < -(y:Rat) by have:=py.2 hy; grind) tt
  grind
 rcases Int.lt_trichotomy x 0 with g|g|g
 have:=p2 x g;constructor<;>constructor<;>intro k<;>first|omega|grind
 subst g;simp
 have:=p1 x g;constructor<;>constructor<;>intro k<;>first|omega|grind
def vQ{N:Int}{t:Rat}(hN:0<N)(ht:(N:Rat)*t=1)(a b q:I2):we (ca a) (ca b) ((q.1:Rat)*t,(q.2:Rat)*t)=wi (cj N a) (cj N b) q:=by
 have sp:=uP hN ht;unfold we wi;rw[yh ht];unfold ca
 dsimp only
 simp only[(mO hN ht _ _).1,(mO hN ht _ _).2,(sp _).1,(sp _).2]
 rfl
def VR.GQ{r:TO I2}(h:VR r){s:Int}(hm:∀p:P2,(∀i,i<r.length->((ca (nx r i)).2<=p.2/\p.2<(ca (nx r (i+1))).2)\/((ca (nx r (i+1))).2<=p.2/\p.2<(ca (nx r i)).2)->tn (ca (nx r i)) (ca (nx r (i+1))) p≠0)->W r.length (fun i=>ca (nx r i)) p=0\/W r.length (fun i=>ca (nx r i)) p=s) :
  ∀N:Int,0<N->∀q:I2,(∀i,i<r.length->¬cz (cj N (nx r i)) (cj N (nx r (i+1))) q)->Jd.dh (r.map (cj N)) q=0\/Jd.dh (r.map (cj N)) q=s:=by
 have hr:r≠[]:=fun e=>by have:=h.n3; rw[e] at this; simp at this
 intro N hN q hq;have hN':(0:Rat)<(N:Rat):=fa.2 hN;have ht:(N:Rat)*(N:Rat)⁻¹=1:=Rat.mul_inv_cancel _ (by grind)
 generalize(N:Rat)⁻¹=t at ht;have sp:=uP hN ht;have e:W r.length (fun i=>ca (nx r i)) ((q.1:Rat)*t,(q.2:Rat)*t)=Jd.dh (r.map (cj N)) q:=by
  unfold Jd.dh W;rw[Q0];refine aX fun i _=>?_;rw[cB _ hr,cB _ hr];exact vQ hN ht _ _ _
 rw[<-e];refine hm _ fun i hi hl=>?_
 show tn (ca (nx r i)) (ca (nx r (i+1))) _≠0
 rw[yh ht];intro h0;have hz:=sp (ti (cj N (nx r i)) (cj N (nx r (i+1))) q);have h0':ti (cj N (nx r i)) (cj N (nx r (i+1))) q=0:=by
  have a1:=mt hz.1.2 (by rw[h0]; grind)
  have a2:=mt hz.2.2 (by rw[h0]; grind)
  omega
 refine hq i hi (mA ?_ h0');unfold ca at hl
 dsimp only at hl
 simp only[(mO hN ht _ _).1,(mO hN ht _ _).2] at hl;exact hl
def VR.sign{r:TO I2}(h:VR r):∃s:Int,(s=1\/s = -1)/\∀N:Int,0<N->∀q:I2,(∀i,i<r.length->¬cz (cj N (nx r i)) (cj N (nx r (i+1))) q)->Jd.dh (r.map (cj N)) q=0\/Jd.dh (r.map (cj N)) q=s:=by
 obtain⟨s,hs,hm⟩:=h.simple.sign;exact⟨s,hs,h.GQ hm⟩
def Ck{u w:Int}(h:(0<=w/\w<=u)\/(u<=w/\w<=0)):0<=u*w/\(w≠0->0<u*w):=by
 rcases h with h|h
 exact⟨R8 (by omega) h.1,fun h0=>SG (by omega) (by omega)⟩
 exact⟨R7 (by omega) h.2,fun h0=>Int.mul_pos_of_neg_of_neg (by omega) (by omega)⟩
def B2{a v p:I2}(h:cz a v p)(hne:p≠v):(a.1-v.1)*(p.2-v.2)=(a.2-v.2)*(p.1-v.1)/\0<(a.1-v.1)*(p.1-v.1)+(a.2-v.2)*(p.2-v.2):=by
 obtain⟨h0,h1,h2,h3,h4⟩:=h;have e1:=Ck (u:=a.1-v.1) (w:=p.1-v.1) (by omega)
 have e2:=Ck (u:=a.2-v.2) (w:=p.2-v.2) (by omega)
 refine⟨by unfold ti at h0; grind,?_⟩
 by_cases g:p.1-v.1=0
 have g2:p.2-v.2≠0:=fun g2=>hne (Rz (by omega) (by omega))
 have:=e2.2 g2;omega
 have:=e1.2 g;omega
def Ex{a v b p:I2}(h1:cz a v p)(h2:cz v b p)(hne:p≠v):ti a v b=0/\di a v b<0:=by
 obtain⟨e1,d1⟩:=B2 h1 hne;obtain⟨e2,d2⟩:=B2 h2.swap hne;have hd:=Io (u:=(a.1-v.1,a.2-v.2)) (v:=(b.1-v.1,b.2-v.2)) (w:=(p.1-v.1,p.2-v.2)) e1 e2 d1 d2
 dsimp only at hd
 refine⟨?_,by unfold di; grind⟩
 have hw:¬(p.1-v.1=0/\p.2-v.2=0):=fun g=>hne (Rz (by omega) (by omega))
 have hx:(p.1-v.1)*ti a v b=0:=by unfold ti; grind
 have hy:(p.2-v.2)*ti a v b=0:=by unfold ti; grind
 rcases RS.1 hx with g|g
 rcases RS.1 hy with k|k
 exact Q1 ⟨g,k⟩ hw
 exact k
 exact g
def Ce{x a b:Int}(h:min a b<=x/\x<=max a b):0<=(b-x)*(b-a)/\0<=(x-a)*(b-a):=by
 rcases Int.le_total a b with g|g
 exact⟨R8 (by omega) (by omega),R8 (by omega) (by omega)⟩
 exact⟨R7 (by omega) (by omega),R7 (by omega) (by omega)⟩
def Js{a b p:I2}(hab:a≠b)(h:cz a b p):∃w1 w2 D:Int,0<=w1/\0<=w2/\w1+w2=D/\0<D/\D*p.1=w1*a.1+w2*b.1/\D*p.2=w1*a.2+w2*b.2:=by
 obtain⟨h0,h1,h2,h3,h4⟩:=h;have e1:=Ce ⟨h1,h2⟩;have e2:=Ce ⟨h3,h4⟩;refine⟨(b.1-p.1)*(b.1-a.1)+(b.2-p.2)*(b.2-a.2),(p.1-a.1)*(b.1-a.1)+(p.2-a.2)*(b.2-a.2),(b.1-a.1)*(b.1-a.1)+(b.2-a.2)*(b.2-a.2),by omega,by omega,by grind,?_,?_,?_⟩
 have s1:=@ML (b.1-a.1);have s2:=@ML (b.2-a.2);refine QI fun k=>hab ?_;have g1:=I7 (show(b.1-a.1)*(b.1-a.1)=0 by omega)
 have g2:=I7 (show(b.2-a.2)*(b.2-a.2)=0 by omega)
 exact Rz (by omega) (by omega)
 unfold ti at h0; grind
 unfold ti at h0; grind
def wZ{a b p:I2}(hab:a≠b)(h:cz a b p){α β γ:Rat}(ha:0<af α β γ (ca a))(hb:0<af α β γ (ca b)):0<af α β γ (ca p):=by
 obtain⟨w1,w2,D,h1,h2,h3,h4,h5,h6⟩:=Js hab h;have c5:(D:Rat)*(p.1:Rat)=(w1:Rat)*a.1+(w2:Rat)*b.1:=by rw[<-RZ,h5,SJ,RZ,RZ]
 have c6:(D:Rat)*(p.2:Rat)=(w1:Rat)*a.2+(w2:Rat)*b.2:=by rw[<-RZ,h6,SJ,RZ,RZ]
 have c3:(w1:Rat)+(w2:Rat)=D:=by rw[<-SJ,h3]
 have d0:(0:Rat)<D:=fa.2 h4;have n1:(0:Rat)<=w1:=by have:=(Bk (x:=0) (y:=w1)).2 h1; simpa using this
 have n2:(0:Rat)<=w2:=by have:=(Bk (x:=0) (y:=w2)).2 h2; simpa using this
 have e:(D:Rat)*af α β γ (ca p)=w1*af α β γ (ca a)+w2*af α β γ (ca b):=by
  unfold af ca
  dsimp only
  grind
 have q1:=bO n1 (show 0<=af α β γ (ca a) by grind)
 have q2:=bO n2 (show 0<=af α β γ (ca b) by grind)
 have q:0<(D:Rat)*af α β γ (ca p):=by
  rw[e]
  by_cases k:(w1:Rat)=0
  have:0<(w2:Rat):=by grind
  have:=bh this hb
  grind
  have:=bh (show 0<(w1:Rat) by grind) ha
  grind
 refine QI fun k=>?_;have:=cU (show 0<=(D:Rat) by grind) (show af α β γ (ca p)<=0 by grind)
 grind
def IB{a b c d p:I2}(hab:a≠b)(hcd:c≠d)(h:NM a b c d)(h1:cz a b p)(h2:cz c d p):False:=by
 obtain⟨α,β,γ,g1,g2,g3,g4⟩:=oR hab hcd h.1 h.2;have k1:=wZ hab h1 g1 g2;have k2:=wZ (α:=-α) (β:=-β) (γ:=-γ) hcd h2 (by unfold af at *; grind) (by unfold af at *; grind)
 unfold af at k1 k2; grind
section
variable{r:TO I2}
def VR.Gi(h:VR r){i j:Nat}(hij:i<j)(hj:j<r.length){p:I2}(hi:cz (nx r i) (nx r (i+1)) p)(hp:cz (nx r j) (nx r (j+1)) p):(j=i+1/\p=nx r j)\/(i=0/\j+1=r.length/\p=nx r 0):=by
 by_cases h1:j=i+1
 subst h1;refine .inl ⟨rfl,QI fun hne=>h.spike i (Ex hi hp hne)⟩
 by_cases h2:i=0/\j+1=r.length
 obtain⟨rfl,h2⟩:=h2;refine .inr ⟨rfl,h2,QI fun hne=>?_⟩;have e1:nx r (j+1)=nx r 0:=by rw[h2,vS]
 have e2:nx r (j+2)=nx r 1:=by
  rw[show j+2=1+r.length by omega]
  exact jD r (Nat.add_mod_right 1 r.length)
 have:=h.spike j;rw[e1,e2] at this;rw[e1] at hp;exact this (Ex hp hi hne)
 exact(IB (h.still i) (h.still j) (h.meet i j (by omega) hj h2) hi hp).elim
def pv(r:TO I2)(m:Nat):Nat:=if m=0 then r.length-1 else m-1
def Ou{m:Nat}(hm:m<r.length):pv r m<r.length:=by unfold pv; split<;>omega
def JP{m:Nat}(hm:m<r.length):nx r (pv r m+1)=nx r m:=by
 unfold pv
 by_cases h:m=0
 subst h; rw[QH rfl,show r.length-1+1=r.length by omega,vS]
 rw[QF h,show m-1+1=m by omega]
def VR.u9(h:VR r){m i:Nat}(hm:m<r.length)(hi:i<r.length)(hb:cz (nx r i) (nx r (i+1)) (nx r m)):i=m\/i=pv r m:=by
 by_cases e:i=m
 exact .inl e
 refine .inr ?_;have hself:cz (nx r m) (nx r (m+1)) (nx r m):=sW _ _;have hn3:=h.n3;rcases Nat.lt_or_gt_of_ne e with g|g
 rcases h.Gi g hm hb hself with⟨k,_⟩|⟨k1,k2,k3⟩
 unfold pv; rw[S8]; omega
 exfalso;subst k1;have hp:pv r m<r.length:=Ou hm;have hs:cz (nx r (pv r m)) (nx r (pv r m+1)) (nx r m):=by rw[JP hm]; exact pg _ _
 have e2:pv r m=m-1:=by unfold pv; rw[S8]
 have hlt:0<pv r m:=by rw[e2]; omega
 rcases h.Gi hlt hp hb hs with⟨k,k'⟩|⟨_,k,_⟩
 rw[e2] at k k';have:=h.still 0;have e3:nx r (m-1)=nx r 1:=by rw[k]
 rw[e3] at k';exact this (by rw[<-k3,k'])
 omega
 rcases h.Gi g hi hself hb with⟨k,k'⟩|⟨k1,k2,k3⟩
 subst k; exact Q1 k' (h.still m)
 unfold pv; rw[QH k1]; omega
def VR.A3(h:VR r){i j:Nat}(hi:i<r.length)(hj:j<r.length){p:I2}(hp:∀k,p≠nx r k)(h1:cz (nx r i) (nx r (i+1)) p)(h2:cz (nx r j) (nx r (j+1)) p):i=j:=by
 refine QI fun hne=>?_;rcases Nat.lt_or_gt_of_ne hne with g|g
 rcases h.Gi g hj h1 h2 with⟨_,k⟩|⟨_,_,k⟩<;>exact hp _ k
 rcases h.Gi g hi h2 h1 with⟨_,k⟩|⟨_,_,k⟩<;>exact hp _ k
end
def Lg(P:Int->Prop):Prop:=∃k,∀N,k<=N->P N
def Lg.ge(k:Int):Lg (k<=·):=⟨k,fun _ h=>h⟩
def Lg.and{P Q:Int->Prop}(h:Lg P)(g:Lg Q):Lg fun N=>P N/\Q N:=by
 obtain⟨a,ha⟩:=h;obtain⟨b,hb⟩:=g;exact⟨max a b,fun N hN=>⟨ha N (by omega),hb N (by omega)⟩⟩
def Lg.imp{P Q:Int->Prop}(h:Lg P)(g:∀N,P N->Q N):Lg Q:=by
 obtain⟨a,ha⟩:=h;exact⟨a,fun N hN=>g N (ha N hN)⟩
def Lg.all{P:Nat->Int->Prop}{n:Nat}(h:∀i,i<n->Lg (P i)):Lg fun N=>∀i,i<n->P i N:=by
 induction n with
 | zero=>exact⟨0,fun _ _ i hi=>by omega⟩
 | succ n ih =>
  refine((ih fun i hi=>h i (by omega)).and (h n (by omega))).imp fun N g i hi=>?_
  by_cases e:i=n
  rw[e]; exact g.2
  exact g.1 i (by omega)
def Lg.get{P:Int->Prop}(h:Lg P):∃N,0<N/\P N:=by
 obtain⟨k,hk⟩:=h;exact⟨max k 1,by omega,hk _ (by omega)⟩
def FH{T:Int}(h:0<T)(C:Int):Lg fun N=>0<N*T+C:=⟨max 0 (1-C),fun N hN=>by
 have:=R5 (show 1<=T by omega) (show 0<=N by omega)
 omega⟩
def KR{T:Int}(h:T<0)(C:Int):Lg fun N=>N*T+C<0:=(FH (show 0 < -T by omega) (-C)).imp fun N g=>by
 rw[Int.mul_neg] at g; omega
def O2{x y d N:Int}(d0:0<=d)(hN:d<N):(x*N<=y*N+d↔x<=y)/\(y*N+d<x*N↔y<x):=by
 have:x*N<=y*N+d↔x<=y:=by
  constructor
  intro h;refine QI fun g=>?_;have:=RN (show y+1<=x by omega) (show 0<=N by omega)
  rw[Int.add_mul] at this;omega
  intro h;have:=RN h (show 0<=N by omega)
  omega
 exact⟨this,by omega⟩
def k9{x y d N:Int}(hN:d<N)(n0:0<=N)(h:x<y):x*N+d<y*N:=by
 have:=RN (show x+1<=y by omega) n0
 rw[Int.add_mul] at this;omega
def wJ(N:Int)(a b p δ:I2):ti (cj N a) (cj N b) (ph δ (cj N p))=N*(N*ti a b p+((b.1-a.1)*δ.2-(b.2-a.2)*δ.1)):=by unfold ti cj ph; grind
def yv{a b p δ:I2}(h:¬cz a b p)(hd:0<=δ.2):Lg fun N=>wi (cj N a) (cj N b) (ph δ (cj N p))=wi a b p/\¬cz (cj N a) (cj N b) (ph δ (cj N p)):=by
 have hl:∀N:Int,max 1 (δ.2+1)<=N->((cj N a).2<=(ph δ (cj N p)).2↔a.2<=p.2)/\((ph δ (cj N p)).2<(cj N a).2↔p.2<a.2)/\((cj N b).2<=(ph δ (cj N p)).2↔b.2<=p.2)/\((ph δ (cj N p)).2<(cj N b).2↔p.2<b.2):=fun N hN=>by
  have h1:=O2 (x:=a.2) (y:=p.2) hd (show δ.2<N by omega)
  have h2:=O2 (x:=b.2) (y:=p.2) hd (show δ.2<N by omega)
  exact⟨h1.1,h1.2,h2.1,h2.2⟩
 rcases Int.lt_trichotomy (ti a b p) 0 with g|g|g
 refine((Lg.ge (max 1 (δ.2+1))).and (KR g ((b.1-a.1)*δ.2-(b.2-a.2)*δ.1))).imp fun N ⟨h1,h2⟩=>?_;have hs:=(hU (x:=N*ti a b p+((b.1-a.1)*δ.2-(b.2-a.2)*δ.1)) (show 0<N by omega)).2.2 h2
 rw[<-wJ] at hs;refine⟨?_,fun hb=>by have:=hb.1; omega⟩
 unfold wi;obtain⟨l1,l2,l3,l4⟩:=hl N h1
 by_cases k:b.2<=p.2/\p.2<a.2/\ti a b p<0
 rw[S8,S9,S8,QH k]
 rw[S8,S8,S8,QF k]
 refine(Lg.ge (max (max 1 (δ.2+1)) (max (δ.1+1) (1-δ.1)))).imp fun N h1=>?_;obtain⟨l1,l2,l3,l4⟩:=hl N (by omega)
 have hn:¬((a.2<=p.2/\p.2<b.2)\/(b.2<=p.2/\p.2<a.2)):=fun k=>h (mA k g);refine⟨?_,fun hb=>?_⟩
 unfold wi;rw[S8,S8,S8,S8]
 obtain⟨_,b1,b2,b3,b4⟩:=hb;refine h ⟨g,?_,?_,?_,?_⟩
 refine QI fun k=>?_;have k1:=k9 (x:=p.1) (y:=a.1) (show δ.1<N by omega) (by omega) (by omega)
 have k2:=k9 (x:=p.1) (y:=b.1) (show δ.1<N by omega) (by omega) (by omega)
 unfold ph cj at b1; dsimp only at b1; omega
 refine QI fun k=>?_;have k1:=k9 (x:=a.1) (y:=p.1) (show -δ.1<N by omega) (by omega) (by omega)
 have k2:=k9 (x:=b.1) (y:=p.1) (show -δ.1<N by omega) (by omega) (by omega)
 unfold ph cj at b2; dsimp only at b2; omega
 refine QI fun k=>?_;have k1:=k9 (x:=p.2) (y:=a.2) (show δ.2<N by omega) (by omega) (by omega)
 have k2:=k9 (x:=p.2) (y:=b.2) (show δ.2<N by omega) (by omega) (by omega)
 unfold ph cj at b3; dsimp only at b3; omega
 refine QI fun k=>?_;have k1:=k9 (x:=a.2) (y:=p.2) (show -δ.2<N by omega) (by omega) (by omega)
 have k2:=k9 (x:=b.2) (y:=p.2) (show -δ.2<N by omega) (by omega) (by omega)
 unfold ph cj at b4; dsimp only at b4; omega
 refine((Lg.ge (max 1 (δ.2+1))).and (FH g ((b.1-a.1)*δ.2-(b.2-a.2)*δ.1))).imp fun N ⟨h1,h2⟩=>?_;have hs:=(hU (x:=N*ti a b p+((b.1-a.1)*δ.2-(b.2-a.2)*δ.1)) (show 0<N by omega)).1.2 h2
 rw[<-wJ] at hs;refine⟨?_,fun hb=>by have:=hb.1; omega⟩
 unfold wi;obtain⟨l1,l2,l3,l4⟩:=hl N h1
 by_cases k:a.2<=p.2/\p.2<b.2/\0<ti a b p
 rw[S9,QH k]
 rw[S8,S8,QF k,S8]
def Jw{a b p:I2}{K:Int}(hab:a≠b)(h:cz a b p)(hK:b.1-a.1<K/\a.1-b.1<K):Lg fun N=>wi (cj N a) (cj N b) (ph (K,1) (cj N p))=wi a b p/\¬cz (cj N a) (cj N b) (ph (K,1) (cj N p)):=by
 refine(Lg.ge 2).imp fun N hN=>?_;have e:=wJ N a b p (K,1);rw[h.1] at e
 dsimp only at e
 have e':ti (cj N a) (cj N b) (ph (K,1) (cj N p))=N*((b.1-a.1)-(b.2-a.2)*K):=by rw[e]; grind
 rw[vD h.1];have hl1:=O2 (x:=a.2) (y:=p.2) (show(0:Int)<=1 by omega) (show 1<N by omega)
 have hl2:=O2 (x:=b.2) (y:=p.2) (show(0:Int)<=1 by omega) (show 1<N by omega)
 have s:=hU (x:=(b.1-a.1)-(b.2-a.2)*K) (show 0<N by omega)
 rw[<-e'] at s;rcases Int.lt_trichotomy (b.2-a.2) 0 with g|g|g
 have:(b.2-a.2)*K<=-1*K:=RN (by omega) (by omega)
 refine⟨?_,fun hb=>by have:=hb.1; omega⟩
 unfold wi;rw[QF (by unfold cj ph; dsimp only; omega),S8]
 rw[g,Int.zero_mul] at s;have hne:b.1-a.1≠0:=fun k=>hab (Rz (by omega) (by omega))
 refine⟨?_,fun hb=>by have:=hb.1; omega⟩
 unfold wi;rw[QF (by unfold cj ph; dsimp only; omega),QF (by unfold cj ph; dsimp only; omega)]
 have:1*K<=(b.2-a.2)*K:=RN (by omega) (by omega)
 refine⟨?_,fun hb=>by have:=hb.1; omega⟩
 unfold wi;rw[S8,QF (by unfold cj ph; dsimp only; omega)]
def Sg(r:TO I2)(s:Int):Prop:=∀N:Int,0<N->∀q:I2,(∀i,i<r.length->¬cz (cj N (nx r i)) (cj N (nx r (i+1))) q)->dh (r.map (cj N)) q=0\/dh (r.map (cj N)) q=s
section
variable{r:TO I2}{s:Int}
def VR.ne_nil(h:VR r):r≠[]:=fun e=>by have:=h.n3; rw[e] at this; simp at this
def Sg.zB(h:VR r)(g:Sg r s)(p:I2):dh r p=0\/dh r p=s:=by
 obtain⟨K,_,hK⟩:=(Lg.all (n:=r.length) (P:=fun i K=>(nx r (i+1)).1-(nx r i).1<K/\(nx r i).1-(nx r (i+1)).1<K) fun i _ =>
  (Lg.ge (max ((nx r (i+1)).1-(nx r i).1) ((nx r i).1-(nx r (i+1)).1)+1)).imp fun K h=>by omega).get
 obtain⟨N,hN,hP⟩:=(Lg.all (n:=r.length) (P:=fun i N=>wi (cj N (nx r i)) (cj N (nx r (i+1))) (ph (K,1) (cj N p))=wi (nx r i) (nx r (i+1)) p/\¬cz (cj N (nx r i)) (cj N (nx r (i+1))) (ph (K,1) (cj N p))) fun i hi=>by
  by_cases hb:cz (nx r i) (nx r (i+1)) p
  exact Jw (h.still i) hb (hK i hi)
  exact yv hb (show(0:Int)<=1 by decide)).get
 have e:dh (r.map (cj N)) (ph (K,1) (cj N p))=dh r p:=by
  unfold dh;rw[Q0];exact aX fun i hi=>by rw[cB _ h.ne_nil,cB _ h.ne_nil]; exact(hP i hi).1
 rw[<-e];exact g N hN _ fun i hi=>(hP i hi).2
def N1(p v:I2):up p v=0\/up p v=1:=by unfold up; split<;>simp
def IH:Chg pK 1 1 where
 inj h:=by unfold pK at h; have h1:=Rf Prod.fst h; have h2:=Rf Prod.snd h; dsimp only at h1 h2; exact Rz (by omega) (by omega)
 ti a b c:=by rw[Ao]; omega
 di a b c:=by unfold di pK; grind
 kp:=by decide
 dp:=by decide
 btw:=BC
def Bw(p:I2):pK (pK p)=p:=by unfold pK; simp
def wE(N:Int)(p:I2):cj N (pK p)=pK (cj N p):=by unfold cj pK; simp[Int.neg_mul]
def Sg.refl(h:r≠[])(g:Sg r s):Sg (r.map Jd.pK) s:=by
 intro N hN q hq;rw[Q0] at hq;have hne:r.map (cj N)≠[]:=by simpa using h
 have e:(r.map Jd.pK).map (cj N)=(r.map (cj N)).map Jd.pK:=by
  rw[List.map_map,List.map_map];exact List.map_congr_left fun p _=>wE N p
 have hq':∀i,i<r.length->¬cz (cj N (nx r i)) (cj N (nx r (i+1))) (Jd.pK q):=fun i hi hb=>by
  have:=hq i hi;rw[cB _ h,cB _ h,wE,wE,<-Bw q] at this;exact this (BC.2 hb)
 rw[e,<-Bw q,xu hne,DR (fun i hi=>by
  rw[Q0] at hi;rw[cB _ h,cB _ h]; exact hq' i hi)]
 exact g N hN _ hq'
def Sg.B8(h:VR r)(g:Sg r s)(p:I2):iE r p=0\/iE r p=s:=by
 rw[<-xu h.ne_nil];exact(g.refl h.ne_nil).zB (IH.vr h) _
end
def pG(n m:Nat)(f:Nat->Nat->Int):bo n (fun i=>bo m fun j=>f i j)=bo m fun j=>bo n fun i=>f i j:=by
 induction n with
 | zero=>simp only[bo]; exact(cC fun _ _=>rfl).symm
 | succ n ih=>simp only[bo]; rw[iS,ih]
def yu(n m:Nat)(f:Nat->Int):bo (n+m) f=bo n f+bo m fun i=>f (n+i):=by
 induction m with
 | zero=>simp[bo]
 | succ m ih=>rw[<-Nat.add_assoc]; simp only[bo]; rw[ih]; omega
def oj(n:Nat)(c:Int):bo n (fun _=>c)=n*c:=by
 induction n with
 | zero=>simp[bo]
 | succ n ih=>simp only[bo]; rw[ih]; grind
def rZ(n:Nat)(f:Nat->Int):bo n (fun i=>-f i) = -bo n f:=by
 have:=jP n (fun _=>0) f;rw[cC (f:=fun _=>(0:Int)) fun _ _=>rfl] at this;rw[<-Int.zero_sub (bo n f),<-this];exact aX fun i _=>by omega
def jn{B lo hi:Int}{H:Nat}(F:Int->Int)(h1:B<=lo)(h2:lo<=hi)(h3:hi<=B+H) :
  bo H (fun j=>if lo<=B+j/\B+j<hi then F (B+j) else 0)=bo (hi-lo).toNat fun k=>F (lo+k):=by
 obtain⟨n,hn⟩:∃n:Nat,lo=B+n:=⟨(lo-B).toNat,by omega⟩
 obtain⟨m,hm⟩:∃m:Nat,hi=lo+m:=⟨(hi-lo).toNat,by omega⟩
 obtain⟨k,hk⟩:∃k:Nat,H=n+m+k:=⟨H-n-m,by omega⟩
 subst hk;rw[yu,yu,cC (n:=n) fun i hi=>S8,cC (n:=k) fun i hi=>S8,show(hi-lo).toNat=m by omega,Int.zero_add,Int.add_zero]
 exact aX fun i hi=>by rw[S9]; congr 1; omega
def count_le{L q:Int}{W:Nat}(h1:L-1<=q)(h2:q<L+W):bo W (fun i=>if L+i<=q then 1 else 0)=q-L+1:=by
 have:=jn (B:=L) (lo:=L) (hi:=q+1) (H:=W) (fun _=>1) (by omega) (by omega) (by omega)
 rw[oj] at this;rw[aX (g:=fun j=>if L<=L+j/\L+j<q+1 then(1:Int) else 0) fun i _=>?_,this]
 omega
 by_cases h:L+(i:Int)<=q
 rw[QH h,S9]
 rw[QF h,S8]
def EM{L q:Int}{W:Nat}(h1:L<=q)(h2:q<=L+W):bo W (fun i=>if q<=L+i then 1 else 0)=L+W-q:=by
 have:=jn (B:=L) (lo:=q) (hi:=L+W) (H:=W) (fun _=>1) (by omega) (by omega) (by omega)
 rw[oj] at this;rw[aX (g:=fun j=>if q<=L+j/\L+j<L+W then(1:Int) else 0) fun i _=>?_,this]
 omega
 by_cases h:q<=L+(i:Int)
 rw[QH h,S9]
 rw[QF h,S8]
def bx(L B:Int)(W H:Nat)(f:I2->Int):Int:=bo W fun i=>bo H fun j=>f (L+i,B+j)
structure Inb(L B:Int)(W H:Nat)(p:I2):Prop where
 x1:L<=p.1
 x2:p.1<L+W
 y1:B<=p.2
 y2:p.2<B+H
section
variable{L B:Int}{W H:Nat}
def xZ{f g:I2->Int}(h:∀p,Inb L B W H p->f p=g p):bx L B W H f=bx L B W H g :=
 aX fun i hi=>aX fun j hj=>h _ ⟨by dsimp only; omega,by dsimp only; omega,by dsimp only; omega,by dsimp only; omega⟩
def L9(f g:I2->Int):bx L B W H (fun p=>f p+g p)=bx L B W H f+bx L B W H g:=by
 unfold bx;rw[<-iS];exact aX fun i _=>iS _ _ _
def Ay(f:I2->Int):bx L B W H (fun p=>-f p) = -bx L B W H f:=by
 unfold bx;rw[<-rZ];exact aX fun i _=>rZ _ _
def KT(c:Int)(f:I2->Int):bx L B W H (fun p=>c*f p)=c*bx L B W H f:=by
 unfold bx;rw[<-sU];exact aX fun i _=>sU _ _ _
def Ly(n:Nat)(f:Nat->I2->Int):bx L B W H (fun p=>bo n fun k=>f k p)=bo n fun k=>bx L B W H (f k):=by
 unfold bx;rw[pG n W];exact aX fun i _=>pG _ _ _
def Kt{v:I2}(h:Inb L B W H v):bx L B W H (fun p=>if p=v then 1 else 0)=1:=by
 obtain⟨a,b,c,d⟩:=h;unfold bx;rw[oB (k:=(v.1-L).toNat) (by omega) fun i hi hne=>cC fun j hj=>QF fun e=>hne (by have:=Rf Prod.fst e; dsimp only at this; omega)]
 rw[oB (k:=(v.2-B).toNat) (by omega) fun j hj hne=>QF fun e=>hne (by have:=Rf Prod.snd e; dsimp only at this; omega)]
 exact QH (Rz (by dsimp only; omega) (by dsimp only; omega))
def Lk{D c:Int}(hD:0<D):∃q:Int,D*q<c/\c<=D*(q+1):=by
 refine⟨(c-1)/D,?_,?_⟩
 have:=Int.mul_ediv_self_le (x:=c-1) (k:=D) (by omega)
 omega
 have:=Int.lt_mul_ediv_self_add (x:=c-1) (k:=D) hD;rw[Int.mul_add];omega
def uB{D x y:Int}(hD:0<D):D*x<D*y↔x<y:=⟨fun h=>Int.lt_of_mul_lt_mul_left h (Int.le_of_lt hD),fun h=>Int.mul_lt_mul_of_pos_left h hD⟩
def il{D x y:Int}(hD:0<D):D*x<=D*y↔x<=y:=⟨fun h=>Int.le_of_mul_le_mul_left h hD,fun h=>R5 h (Int.le_of_lt hD)⟩
def Cb{a b:I2}(ha:Inb L B W H a)(hb:Inb L B W H b)(h:a.2<b.2):bx L B W H (fun p=>wi a b p+wj a b p)=(b.2-a.2)*(a.1+b.1-(2*L+W-1)):=by
 obtain⟨ax1,ax2,ay1,ay2⟩:=ha;obtain⟨bx1,bx2,by1,by2⟩:=hb;have hD:0<b.2-a.2:=by omega
 let c:Int->Int:=fun y=>(b.1-a.1)*(y-a.2)+(b.2-a.2)*a.1
 have hti:∀x y:Int,ti a b (x,y)=c y-(b.2-a.2)*x:=fun x y=>by show _=(b.1-a.1)*(y-a.2)+(b.2-a.2)*a.1-(b.2-a.2)*x; unfold ti; grind
 have hcr:∀y,c y+c (a.2+b.2-y)=(b.2-a.2)*(a.1+b.1):=fun y=>by show(b.1-a.1)*(y-a.2)+(b.2-a.2)*a.1+((b.1-a.1)*(a.2+b.2-y-a.2)+(b.2-a.2)*a.1)=_; grind
 have hlo:∀y,a.2<=y->y<=b.2->(b.2-a.2)*L<=c y:=fun y h1 h2=>by
  have e:c y=(b.2-y)*a.1+(y-a.2)*b.1:=by show(b.1-a.1)*(y-a.2)+(b.2-a.2)*a.1=_; grind
  have e1:=R5 ax1 (show 0<=b.2-y by omega)
  have e2:=R5 bx1 (show 0<=y-a.2 by omega)
  have e3:(b.2-a.2)*L=(b.2-y)*L+(y-a.2)*L:=by grind
  omega
 have hhi:∀y,a.2<=y->y<=b.2->c y<=(b.2-a.2)*(L+W-1):=fun y h1 h2=>by
  have e:c y=(b.2-y)*a.1+(y-a.2)*b.1:=by show(b.1-a.1)*(y-a.2)+(b.2-a.2)*a.1=_; grind
  have e1:=R5 (show a.1<=L+W-1 by omega) (show 0<=b.2-y by omega)
  have e2:=R5 (show b.1<=L+W-1 by omega) (show 0<=y-a.2 by omega)
  have e3:(b.2-a.2)*(L+W-1)=(b.2-y)*(L+W-1)+(y-a.2)*(L+W-1):=by grind
  omega
 have hS:a.1+b.1=a.1+b.1:=rfl
 let F:Int->Int:=fun y=>bo W fun i=>if 0<ti a b (L+i,y) then 1 else 0
 let G:Int->Int:=fun y=>bo W fun i=>if ti a b (L+i,y)<0 then 1 else 0
 have hFG:∀y,a.2<=y->y<b.2->F y-G (a.2+b.2-y)=a.1+b.1-(2*L+W-1):=fun y h1 h2=>by
  obtain⟨q,q1,q2⟩:=Lk (c:=c y) hD;have l1:=hlo y h1 (by omega)
  have l2:=hhi y h1 (by omega)
  have l3:=hlo (a.2+b.2-y) (by omega) (by omega)
  have l4:=hhi (a.2+b.2-y) (by omega) (by omega)
  have hc:=hcr y;have g1:L<=q+1:=(il hD).1 (Int.le_trans l1 q2);have g2:q<L+W-1:=(uB hD).1 (Int.lt_of_lt_of_le q1 l2);have d1:(b.2-a.2)*(a.1+b.1-q)=(b.2-a.2)*(a.1+b.1)-(b.2-a.2)*q:=by grind
  have d2:(b.2-a.2)*(a.1+b.1-(q+1))=(b.2-a.2)*(a.1+b.1)-(b.2-a.2)*(q+1):=by grind
  have g3:L<a.1+b.1-q:=(uB hD).1 (by omega)
  have g4:a.1+b.1-(q+1)<=L+W-1:=(il hD).1 (by omega)
  have eF:F y=q-L+1:=by
   rw[<-count_le (L:=L) (q:=q) (W:=W) (by omega) (by omega)]
   refine aX fun i _=>?_;rw[hti]
   by_cases k:L+(i:Int)<=q
   have:=(il hD).2 k;rw[QH k,S9]
   have:=(il hD).2 (show q+1<=L+(i:Int) by omega)
   rw[QF k,S8]
  have eG:G (a.2+b.2-y)=L+W-(a.1+b.1-q):=by
   rw[<-EM (L:=L) (q:=a.1+b.1-q) (W:=W) (by omega) (by omega)]
   refine aX fun i _=>?_;rw[hti]
   by_cases k:a.1+b.1-q<=L+(i:Int)
   have:=(il hD).2 k;rw[QH k,S9]
   have:=(il hD).2 (show L+(i:Int)<=a.1+b.1-(q+1) by omega)
   rw[QF k,S8]
  rw[eF,eG]; omega
 have e:bx L B W H (fun p=>wi a b p+wj a b p)=bo H (fun j=>if a.2<=B+j/\B+j<b.2 then F (B+j) else 0)-bo H (fun j=>if a.2+1<=B+j/\B+j<b.2+1 then G (B+j) else 0):=by
  unfold bx;rw[pG,<-jP];refine aX fun j _=>?_;rw[iS];have e1:bo W (fun i=>wi a b (L+i,B+j))=if a.2<=B+j/\B+j<b.2 then F (B+j) else 0:=by
   by_cases k:a.2<=B+(j:Int)/\B+(j:Int)<b.2
   rw[QH k];refine aX fun i _=>?_;unfold wi
   dsimp only
   by_cases k2:0<ti a b (L+i,B+j)
   rw[S9,QH k2]
   rw[S8,S8,QF k2]
   rw[QF k];refine cC fun i _=>?_;unfold wi
   dsimp only
   rw[S8,S8]
  have e2:bo W (fun i=>wj a b (L+i,B+j)) = -(if a.2+1<=B+j/\B+j<b.2+1 then G (B+j) else 0):=by
   by_cases k:a.2+1<=B+(j:Int)/\B+(j:Int)<b.2+1
   rw[QH k]
   show _ = -bo W fun i=>if ti a b (L+i,B+j)<0 then 1 else 0
   rw[<-rZ];refine aX fun i _=>?_;unfold wj
   dsimp only
   by_cases k2:ti a b (L+i,B+j)<0
   rw[S9,QH k2]
   rw[S8,S8,QF k2]; rfl
   rw[QF k];refine cC fun i _=>?_;unfold wj
   dsimp only
   rw[S8,S8]
  rw[e1,e2]; omega
 rw[e,jn F ay1 (by omega) (by omega),jn G (by omega) (by omega) (by omega),show b.2+1-(a.2+1)=b.2-a.2 by omega]
 obtain⟨D,hDn⟩:∃D:Nat,b.2=a.2+D:=⟨(b.2-a.2).toNat,by omega⟩
 rw[show(b.2-a.2).toNat=D by omega,<-GD D fun k=>G (a.2+1+k),<-jP]
 rw[aX (g:=fun _=>a.1+b.1-(2*L+W-1)) fun k hk=>?_,oj]
 rw[show b.2-a.2=(D:Int) by omega]
 have:=hFG (a.2+k) (by omega) (by omega)
 rw[<-this]
 congr 2
 omega
def Jv(a b p:I2):wj b a p = -wj a b p:=by rw[<-zV,<-zV,B7]
def FC{a b:I2}(ha:Inb L B W H a)(hb:Inb L B W H b):bx L B W H (fun p=>wi a b p+wj a b p)=(b.2-a.2)*(a.1+b.1-(2*L+W-1)):=by
 rcases Int.lt_trichotomy a.2 b.2 with h|h|h
 exact Cb ha hb h
 rw[h,Int.sub_self,Int.zero_mul];refine cC fun i _=>cC fun j _=>?_;unfold wi wj
 dsimp only
 rw[S8,S8,S8,S8]; rfl
 have:=Cb hb ha h;have e:bx L B W H (fun p=>wi a b p+wj a b p) = -bx L B W H (fun p=>wi b a p+wj b a p):=by
  rw[<-Ay];exact xZ fun p _=>by rw[B7 a b,Jv a b]; omega
 rw[e,this]; grind
def sh{r:TO I2}(h:∀i,Inb L B W H (nx r i)):bx L B W H (fun p=>dh r p+iE r p)=kU r:=by
 have e:bx L B W H (fun p=>dh r p+iE r p)=bo r.length fun i=>bx L B W H fun p=>wi (nx r i) (nx r (i+1)) p+wj (nx r i) (nx r (i+1)) p:=by
  rw[<-Ly];exact xZ fun p _=>(iS _ _ _).symm
 rw[e,aX fun i _=>FC (h i) (h (i+1))];have t:=tz r.length fun i=>(nx r i).1*(nx r i).2-(2*L+W-1)*(nx r i).2;rw[vS,Int.sub_self] at t;have t2:=iS r.length (fun i=>(nx r i).1*(nx r (i+1)).2-(nx r i).2*(nx r (i+1)).1) fun i=>((nx r (i+1)).1*(nx r (i+1)).2-(2*L+W-1)*(nx r (i+1)).2)-((nx r i).1*(nx r i).2-(2*L+W-1)*(nx r i).2);rw[t,Int.add_zero] at t2;unfold kU;rw[<-t2];exact aX fun i _=>by grind
end
structure Steps(a b:I2)(g:Nat)(u w s t:Int):Prop where
 g0:0<g
 x:b.1-a.1=g*u
 y:b.2-a.2=g*w
 one:s*u+t*w=1
section
variable{a b:I2}{g:Nat}{u w s t:Int}
end
section
variable{L B:Int}{W H:Nat}
def Inb.uy{a b p:I2}(ha:Inb L B W H a)(hb:Inb L B W H b)(h:cz a b p):Inb L B W H p:=by
 obtain⟨_,h1,h2,h3,h4⟩:=h;obtain⟨a1,a2,a3,a4⟩:=ha;obtain⟨b1,b2,b3,b4⟩:=hb;exact⟨by omega,by omega,by omega,by omega⟩
end
def LD{a b p:I2}(h:cz a b p)(ha:p≠a)(hb:p≠b):up p a+up p b=1:=by
 obtain⟨h0,h1,h2,h3,h4⟩:=h;have ha':¬(p.1=a.1/\p.2=a.2):=fun k=>ha (Rz k.1 k.2);have hb':¬(p.1=b.1/\p.2=b.2):=fun k=>hb (Rz k.1 k.2)
 by_cases e1:a.2=p.2
 by_cases e2:b.2=p.2
 unfold up
 by_cases k:a.1<p.1
 rw[S9,S8]; rfl
 rw[S8,S9]; rfl
 rw[sT e1] at h0;rcases RS.1 h0 with k|k<;>omega
 by_cases e2:b.2=p.2
 rw[uK e2] at h0;rcases RS.1 h0 with k|k<;>omega
 unfold up
 by_cases k:p.2<a.2
 rw[S9,S8]; rfl
 rw[S8,S9]; rfl
section
variable{r:TO I2}
def jh{n:Nat}{f:Nat->Int}(h:∀i,i<n->f i<=0):bo n f<=0:=by
 induction n with
 | zero=>simp[bo]
 | succ n ih =>
  have h1:=ih fun i hi=>h i (by omega)
  have h2:=h n (by omega)
  simp only[bo]; omega
def VR.Mi(h:VR r)(ha:0<kU r):Sg r 1:=by
 obtain⟨s,hs,g⟩:=h.sign;have g:Sg r s:=g;rcases hs with rfl|rfl
 exact g
 exfalso;obtain⟨K,K0,hK⟩:=(Lg.all (n:=r.length) (P:=fun i K=>-K<(nx r i).1/\(nx r i).1<K/\-K<(nx r i).2/\(nx r i).2<K) fun i _ =>
  (Lg.ge (max (max (nx r i).1 (-(nx r i).1)) (max (nx r i).2 (-(nx r i).2))+1)).imp fun K h=>by omega).get
 have hb:∀i,Inb (-K) (-K) (2*K).toNat (2*K).toNat (nx r i):=fun i=>by
  have:=hK (i%r.length) (Ru _ (by have:=h.n3; omega))
  rw[jD r (Nat.mod_mod i r.length)] at this;exact⟨by omega,by omega,by omega,by omega⟩
 have e:=sh hb;have:bx (-K) (-K) (2*K).toNat (2*K).toNat (fun p=>Jd.dh r p+iE r p)<=0:=jh fun i _=>jh fun j _=>by
  have a:=g.zB h (-K+i,-K+j);have b:=g.B8 h (-K+i,-K+j)
  dsimp only
  omega
 omega
end
def VR.Mo{r:TO I2}(h:VR r):kU r≠0:=by
 intro h0;have hne:r≠[]:=h.ne_nil;have h2:VR (r.map (cj 2)):=(BX (s:=2) (by decide)).vr h
 have hl:(r.map (cj 2)).length=r.length:=Q0 _;obtain⟨s,hs,g⟩:=h2.sign;have g:Sg (r.map (cj 2)) s:=g;have ea:∀i,nx (r.map (cj 2)) i=cj 2 (nx r i):=cB _ hne;have har:kU (r.map (cj 2))=0:=by
  unfold kU at h0 ⊢;rw[hl,aX (g:=fun i=>4*((nx r i).1*(nx r (i+1)).2-(nx r i).2*(nx r (i+1)).1)) fun i _=>by rw[ea,ea]; unfold cj; grind]
  rw[sU,h0,Int.mul_zero]
 generalize hr2:r.map (cj 2)=r2 at *;obtain⟨p,hp,hpa,hpb⟩:∃p,cz (nx r2 0) (nx r2 (0+1)) p/\p≠nx r2 0/\p≠nx r2 (0+1):=by
  refine⟨((nx r 0).1+(nx r (0+1)).1,(nx r 0).2+(nx r (0+1)).2),?_,?_,?_⟩
  rw[ea,ea];unfold cz ti cj;refine⟨by grind,?_⟩
  dsimp only
  omega
  rw[ea];intro e;have e1:=Rf Prod.fst e;have e2:=Rf Prod.snd e;unfold cj at e1 e2
  dsimp only at e1 e2
  exact h.still 0 (Rz (by omega) (by omega))
  rw[ea];intro e;have e1:=Rf Prod.fst e;have e2:=Rf Prod.snd e;unfold cj at e1 e2
  dsimp only at e1 e2
  exact h.still 0 (Rz (by omega) (by omega))
 have h3:=h2.n3;have hk:∀k,p≠nx r2 k:=by
  intro k e;have hm:k%r2.length<r2.length:=Ru _ (by omega)
  have e':p=nx r2 (k%r2.length):=by rw[e]; exact jD r2 (Nat.mod_mod _ _).symm
  rw[e'] at hp hpa hpb;rcases h2.u9 hm (by omega) hp with c|c
  exact hpa (by rw[<-c])
  have:=JP hm;rw[<-c] at this;exact hpb this.symm
 have hd:=Co r2 p;rw[oB (k:=0) (by omega) fun j hj hne=>by unfold Lb; exact QF fun c=>hne (h2.A3 hj (by omega) hk c hp)] at hd
 unfold Lb at hd;rw[QH hp] at hd;have hu:=LD hp (hk _) (hk _);have a1:=N1 p (nx r2 0);have w1:=g.zB h2 p;have w2:=g.B8 h2 p;obtain⟨K,K0,hK⟩:=(Lg.all (n:=r2.length) (P:=fun i K=>-K<(nx r2 i).1/\(nx r2 i).1<K/\-K<(nx r2 i).2/\(nx r2 i).2<K) fun i _ =>
  (Lg.ge (max (max (nx r2 i).1 (-(nx r2 i).1)) (max (nx r2 i).2 (-(nx r2 i).2))+1)).imp fun K h=>by omega).get
 have hb:∀i,Inb (-K) (-K) (2*K).toNat (2*K).toNat (nx r2 i):=fun i=>by
  have:=hK (i%r2.length) (Ru _ (by omega))
  rw[jD r2 (Nat.mod_mod i r2.length)] at this;exact⟨by omega,by omega,by omega,by omega⟩
 have e:=sh hb;rw[har] at e;have hle:bx (-K) (-K) (2*K).toNat (2*K).toNat (fun q=>(if q=p then 1 else 0) + -(s*(Jd.dh r2 q+iE r2 q)))<=0:=jh fun i _=>jh fun j _=>by
  have a:=g.zB h2 (-K+i,-K+j);have b:=g.B8 h2 (-K+i,-K+j)
  dsimp only
  split
  rename_i c;rw[c];rcases hs with rfl|rfl<;>omega
  rcases hs with rfl|rfl<;>omega
 rw[L9 (fun q=>if q=p then 1 else 0),Kt ((hb 0).uy (hb (0+1)) hp),Ay,KT,e] at hle
 omega
end Jd
end
section
namespace Go.Proofs.Ytmndpgfbkicndaa
open Go Go.Ab Go.Ab.W Go.Ab.B Jd
structure Fcs(pts:TO I2)(F:TO Fc):Prop where
 len:3<=pts.length/\pts.length<=120
 flen:1<=F.length/\F.length<=64
 near:fV pts
 one:∀i,i<pts.length->nx pts i∉pts.take i
 ok:OY pts F
 va:∀f∈F,NL pts f=true
 tu:∀f∈F,ME pts f=true
def nO{p:Fc->Bool}{F:TO Fc}(h:bL (iB p F) (.inr ()) F.length 0=.inr ()):∀f∈F,p f=true:=by
 intro f hf;obtain⟨j,hj,e⟩:=Ri.1 hf;have:=jU (f:=iB p F) (fun j r hr=>by
  unfold iB at hr
  split at hr
  split at hr
  cases hr
  cases hr; intro c; cases c
  cases hr) h j hj
 unfold iB at this;rw[QG hj,e] at this
 dsimp only at this
 refine QI fun hc=>?_;rw[QF hc] at this; cases this
def EG{f:Nat->TN (Int⊕TP)}(hf:∀j r,f j=some (.inl r)->0<=r){k:Nat}{v:Int}(h:bL f (.inr ()) k 0=.inl v):0<=v:=by
 rcases cA (f:=f) (e:=.inr ()) k 0 with⟨h1,h2⟩|⟨j,_,h2,h3⟩
 rw[h2] at h; cases h
 rw[h] at h3; exact hf j v h3
def pJ{p:Fc->Bool}{F:TO Fc}{v:Int}(h:bL (iB p F) (.inr ()) F.length 0=.inl v):0<=v:=EG (fun j r hr=>by
 unfold iB at hr
 split at hr
 split at hr
 cases hr
 have:=QL hr;have:=Sum.inl.inj this;omega
 cases hr) h
def HO{pts:TO I2}(h0:0<pts.length)(h:bL (lh pts) (.inr ()) pts.length 0=.inr ()):fV pts:=by
 intro q hq;obtain⟨j,hj,e⟩:=Ri.1 hq;have:=AM h0 h j;unfold nx at this;rw[R9 hj,QN,QG hj,e] at this;exact this
def JT{pts:TO I2}{f:Fc}(h:NL pts f=true):∀r∈f.1::f.2,kU (cJ pts r 1)≠0:=fun r hr =>
 VR.Mo (qZ.1 (of_decide_eq_true (QS.1 h r hr))).vr
def HF{pts:TO I2}(h:bL (oK pts) (.inr ()) pts.length 0=.inr ()):∀i,i<pts.length->nx pts i∉pts.take i:=fun i hi hc=>by
 have:=jU (f:=oK pts) (fun j r hr=>by
  unfold oK at hr
  split at hr
  cases hr; intro c; cases c
  cases hr) h i hi
 unfold oK at this;rw[QH hc] at this; cases this
abbrev Ed:=SP
def acc{α:Type}(g:Nat->TO α):Nat->TO α
 | 0=>[]
 | k+1=>acc g k++g k
def mV{α:Type}{g:Nat->TO α}{b:Nat}:∀{k:Nat},(∀i,i<k->(g i).length<=b)->(acc g k).length<=k*b
 | 0,_=>by simp[acc]
 | k+1,h=>by
  have h1:=mV (k:=k) fun i hi=>h i (by omega)
  have h2:=h k (by omega)
  rw[acc,QV,Sc]; omega
def ik(l:TO Int)(f r i:Nat):Ed:=(l.getD i 0,l.getD ((i+1)%l.length) 0,(f:Int),(r:Int))
def rE(l:TO Int)(f r:Nat):TO Ed:=acc (fun i=>[ik l f r i]) l.length
def fE(rs:SR)(f:Nat):TO Ed:=acc (fun r=>rE (rs.getD r []) f r) rs.length
def aj(F:TO Fc)(f:Nat):SR:=(F.getD f ([],[])).1::(F.getD f ([],[])).2
def sE(F:TO Fc):TO Ed:=acc (fun f=>fE (aj F f) f) F.length
def DY{l:TO Int}{f r:Nat}:(rE l f r).length<=l.length:=by
 have:=mV (g:=fun i=>[ik l f r i]) (b:=1) (k:=l.length) fun i _=>by simp
 unfold rE; omega
section
variable{pts:TO I2}{F:TO Fc}(n:Nat)
end
def AA(pts:TO I2)(e:Ed):Prop:=(0<=e.1/\e.1<pts.length)/\(0<=e.2.1/\e.2.1<pts.length)/\gA pts e.1≠gA pts e.2.1
def oV(e f:Ed):Bool:=(decide (e.1=f.1)&&decide (e.2.1=f.2.1)) ||(decide (e.1=f.2.1)&&decide (e.2.1=f.1))
noncomputable def gY (pts:TO I2) (e f:Ed):Bool :=
 if oV e f then false
 else if nF (gA pts e.1) (gA pts e.2.1) (gA pts f.1) (gA pts f.2.1)=1 then !decide (e.1=f.1) &&(!decide (e.1=f.2.1) &&(!decide (e.2.1=f.1) && !decide (e.2.1=f.2.1)))
 else !decide (nF (gA pts e.1) (gA pts e.2.1) (gA pts f.1) (gA pts f.2.1)=0)
def HE(e f:Ed):(br (decide (e.1=f.1)) (br (decide (e.2.1=f.2.1)) (some true) (br (decide (e.1=f.2.1)) (some (decide (e.2.1=f.1))) (some false))) (br (decide (e.1=f.2.1)) (some (decide (e.2.1=f.1))) (some false)))=some (oV e f):=by
 unfold oV;cases decide (e.1=f.1)<;>cases decide (e.2.1=f.2.1)<;>cases decide (e.1=f.2.1)<;>cases decide (e.2.1=f.1)<;>rfl
def xP{pts:TO I2}{i:Int}(h:0<=i/\i<pts.length):ck i pts.length=true:=QM ⟨h.1,by omega⟩
def Jy(e f:Ed):(br (!decide (e.1=f.1)) (br (!decide (e.1=f.2.1)) (br (!decide (e.2.1=f.1)) (some (!decide (e.2.1=f.2.1))) (some false)) (some false)) (some false))=some (!decide (e.1=f.1) &&(!decide (e.1=f.2.1) &&(!decide (e.2.1=f.1) && !decide (e.2.1=f.2.1)))):=by
 cases decide (e.1=f.1)<;>cases decide (e.1=f.2.1)<;>cases decide (e.2.1=f.1)<;>rfl
section
variable{pts:TO I2}{F:TO Fc}(n:Nat)
def KA(hb:fV pts){e f:Ed}(he:AA pts e)(hf:AA pts f)(hn:1000<n):Ng n pts F e.1 e.2.1 e.2.2.1 e.2.2.2 f.1 f.2.1 f.2.2.1 f.2.2.2=some (gY pts e f):=by
 obtain⟨a1,a2,a3⟩:=he;obtain⟨b1,b2,b3⟩:=hf;have i6:∀{p:I2},Nr p->lD p.1/\lD p.2:=fun{p} h=>by
  unfold Nr at h; unfold lD; omega
 have nf:∀{p:I2},Nr p->¬Fa p:=fun{p} h=>by
  unfold Nr at h; unfold Fa; omega
 have c1:=kS hb a1;have c2:=kS hb a2;have c3:=kS hb b1;have c4:=kS hb b2;unfold Ng gY;rw[HE,ai];cases oV e f
 ·rw[gw,xP a1,aY,nq a1,ai]
  try dsimp only
  rw[xP a2,aY,nq a2,ai]
  try dsimp only
  rw[xP b1,aY,nq b1,ai]
  try dsimp only
  rw[xP b2,aY,nq b2,ai]
  try dsimp only
  rw[Ll n (i6 c1) (i6 c2) (i6 c3) (i6 c4) (by omega),QF (by
   rintro(h|h|h|h|h|h)
   exact nf c1 h
   exact nf c2 h
   exact nf c3 h
   exact nf c4 h
   exact a3 h
   exact b3 h),ai]
  try dsimp only
  rw[Jy,QF (by decide)]
  by_cases h:nF (gA pts e.1) (gA pts e.2.1) (gA pts f.1) (gA pts f.2.1)=0
  rw[aF h,S8,h]; rfl
  rw[aE h]
  by_cases g:nF (gA pts e.1) (gA pts e.2.1) (gA pts f.1) (gA pts f.2.1)=1
  rw[aF g,QH g]
  rw[aE g,QF g,QO h]; rfl
 rfl
end
def bJ(P:TO Ed->Ed->Bool):TO Ed->TO Ed->TN Int
 | _,[]=>none
 | d,e::es=>if P d e then some e.2.2.1 else bJ P (d++[e]) es
def jM{P:TO Ed->Ed->Bool}:∀(a b d:TO Ed),bJ P d (a++b)=match bJ P d a with|some v=>some v|none=>bJ P (d++a) b
 | [],b,d=>by simp[bJ]
 | e::a,b,d=>by
  rw[Sn,bJ,bJ]
  by_cases h:P d e=true
  rw[QH h,QH h]
  rw[QF h,QF h,jM a b (d++[e]),Ry]; rfl
def zE(d:TO Ed)(e:Ed):Bool:=d.any fun x=>decide (e.1=x.1)&&decide (e.2.1=x.2.1)
noncomputable def xO (pts:TO I2) (d:TO Ed) (e:Ed):Bool:=d.any fun x=>gY pts e x
section
variable{pts:TO I2}{F:TO Fc}(n:Nat)
end
def vd{P:TO Ed->Ed->Bool}{g:Nat->TO Ed}{d:TO Ed}{v:Int}{i:Nat}(h:bJ P d (acc g i)=some v):∀k,bJ P d (acc g (i+k))=some v
 | 0=>h
 | k+1=>by
  rw[<-Nat.add_assoc,acc,jM,vd h k]
def oe{σ τ:Type}{B:(Int×σ)->TN ((Int×σ)⊕τ⊕σ)}{len:Nat}{P:TO Ed->Ed->Bool}{g:Nat->TO Ed}{d:TO Ed}(R:TO Ed->σ->Prop)(Q:τ->Int->Prop)
  (hB:∀i s,i<len->R (d++acc g i) s->(∃v t,bJ P (d++acc g i) (g i)=some v/\B ((i:Int),s)=some (.inr (.inl t))/\Q t v) \/
   (bJ P (d++acc g i) (g i)=none/\∃s',B ((i:Int),s)=some (.inl (((i+1:Nat):Int),s'))/\R (d++acc g i++g i) s'))
  (hE:∀s,R (d++acc g len) s->B ((len:Int),s)=some (.inr (.inr s))) :
  ∀(k i n:Nat) (s:σ),i+k=len->k<n->bJ P d (acc g i)=none->R (d++acc g i) s ->
   (∃v t,bJ P d (acc g len)=some v/\bH B n ((i:Int),s)=some (.inl t)/\Q t v)\/(bJ P d (acc g len)=none/\∃s',bH B n ((i:Int),s)=some (.inr s')/\R (d++acc g len) s')
 | 0,i,n+1,s,h,_,h0,hr=>by
  rw[RV] at h; subst h;exact .inr ⟨h0,s,fq (hE s hr),hr⟩
 | k+1,i,n+1,s,h,hn,h0,hr=>by
  rcases hB i s (by omega) hr with⟨v,t,h1,h2,h3⟩|⟨h1,s',h2,h3⟩
  refine .inl ⟨v,t,?_,fq h2,h3⟩;have:bJ P d (acc g (i+1))=some v:=by rw[acc,jM,h0]; exact h1
  have:=vd this k;rw[show i+1+k=len by omega] at this
  exact this
  rw[fK h2];exact oe R Q hB hE k (i+1) n s' (by omega) (by omega) (by rw[acc,jM,h0]; exact h1) (by rw[acc,<-Ry]; exact h3)
def qU{l:TO Int}{i:Nat}(hi:i<l.length):l[((i:Nat):Int).toNat]? = some (l.getD i 0)/\l[(((i+1)%l.length:Nat):Int).toNat]? = some (l.getD ((i+1)%l.length) 0):=by
 have hi2:(i+1)%l.length<l.length:=Ru _ (by omega)
 exact⟨by rw[Rb,QN,QG hi]; rfl,by rw[Rb,QN,QG hi2]; rfl⟩
def nD(d:TO Ed)(m:TO ((Int×Int)×Bool)):Prop:=∀p:Int×Int,(fk m p).getD false=d.any fun x=>decide (p.1=x.1)&&decide (p.2=x.2.1)
def CG{d:TO Ed}{m:TO ((Int×Int)×Bool)}(h:nD d m)(e:Ed):nD (d++[e]) (jA m (e.1,e.2.1) true):=by
 intro p;rw[uE,List.any_append]
 by_cases hp:p=(e.1,e.2.1)
 rw[QH hp,hp]; simp
 rw[QF hp,h p];have:(decide (p.1=e.1)&&decide (p.2=e.2.1))=false:=by
  rw[<-Ro,QO];exact fun c=>hp (Rz c.1 c.2)
 simp only[List.any_cons,List.any_nil,Bool.or_false,this]
section
variable{pts:TO I2}{F:TO Fc}(n:Nat)
def GW{l:TO Int}{f r:Nat}{d:TO Ed}{m:TO ((Int×Int)×Bool)}(hm:nD d m)(hl:l.length<=40)(hn:1000<n) :
  (∃v t,bJ zE d (rE l f r)=some v/\bH (qc n l) n (0,m)=some (.inl t)/\v=(f:Int))\/(bJ zE d (rE l f r)=none/\∃s',bH (qc n l) n (0,m)=some (.inr s')/\nD (d++rE l f r) s'):=by
 refine oe (B:=qc n l) (len:=l.length) (P:=zE) (g:=fun i=>[ik l f r i]) (d:=d) nD (fun _ v=>v=(f:Int)) (fun i s hi hs=>?_) (fun s hs=>?_) l.length 0 n m (by omega) (by omega) rfl (by rw[acc,Rr]; exact hm)
 ·obtain⟨e1,e2⟩:=qU hi;have hi2:(i+1)%l.length<l.length:=Ru _ (by omega)
  have hk:=hs (l.getD i 0,l.getD ((i+1)%l.length) 0);have hB:qc n l ((i:Int),s)=if zE (d++acc (fun i=>[ik l f r i]) i) (ik l f r i) then some (.inr (.inl s)) else some (.inl (((i+1:Nat):Int),jA s (l.getD i 0,l.getD ((i+1)%l.length) 0) true)):=by
   unfold qc
   try dsimp only
   rw[aF (by omega)]
   simp only[aA hi,aY,e1,ai,aw (show i<4611686018427387904 by omega)]
   rw[fL (by omega)]
   simp only[kD,aA hi2,aY,e2,ai];rw[hk]
   show ob (br (zE (d++acc (fun i=>[ik l f r i]) i) (ik l f r i)) _ _) _=_
   cases zE (d++acc (fun i=>[ik l f r i]) i) (ik l f r i)<;>rfl
  by_cases c:zE (d++acc (fun i=>[ik l f r i]) i) (ik l f r i)=true
  rw[QH c] at hB;exact .inl ⟨(f:Int),s,by rw[bJ,QH c]; rfl,hB,rfl⟩
  rw[QF c] at hB;exact .inr ⟨by rw[bJ,QF c,bJ],_,hB,CG hs (ik l f r i)⟩
 ·unfold qc
  try dsimp only
  rw[aE (by omega)]
end
section
variable{pts:TO I2}{F:TO Fc}(n:Nat)
def Fb{rs:SR}{f:Nat}{d:TO Ed}{m:TO ((Int×Int)×Bool)}(hm:nD d m)(h9:rs.length<=9)(h40:∀r,(rs.getD r []).length<=40)(hn:1000<n) :
  (∃v t,bJ zE d (fE rs f)=some v/\bH (qg n rs) n (0,m)=some (.inl t)/\v=(f:Int))\/(bJ zE d (fE rs f)=none/\∃s',bH (qg n rs) n (0,m)=some (.inr s')/\nD (d++fE rs f) s'):=by
 refine oe (B:=qg n rs) (len:=rs.length) (P:=zE) (g:=fun r=>rE (rs.getD r []) f r) (d:=d) nD (fun _ v=>v=(f:Int)) (fun i s hi hs=>?_) (fun s hs=>?_) rs.length 0 n m (by omega) (by omega) rfl (by rw[acc,Rr]; exact hm)
 ·have hx:rs[i]? = some (rs.getD i []):=by rw[QN,QG hi]; rfl
  rcases GW n (l:=rs.getD i []) (f:=f) (r:=i) hs (h40 i) hn with⟨v,t,h1,h2,h3⟩|⟨h1,s',h2,h3⟩
  ·refine .inl ⟨v,t,h1,?_,h3⟩;unfold qg
   try dsimp only
   rw[aF (by omega),aA hi,aY,bG hx,ai,h2,ai]
  ·refine .inr ⟨h1,s',?_,h3⟩;unfold qg
   try dsimp only
   rw[aF (by omega),aA hi,aY,bG hx,ai,h2,ai,aw (by omega)]
 ·unfold qg
  try dsimp only
  rw[aE (by omega)]
def fb(hv:Fcs pts F)(i:Nat):(aj F i).length<=9/\∀r,((aj F i).getD r []).length<=40:=by
 unfold aj
 by_cases hi:i<F.length
 obtain⟨h8,h9⟩:=oI (hv.ok _ (Q5 hi));have e:F.getD i ([],[])=F[i]:=by rw[QN,QG hi]; rfl
 rw[e];refine⟨by simp; omega,fun r=>?_⟩
 by_cases hr:r<(F[i].1::F[i].2).length
 have:=(fT rfl (h9 _ (Q5 hr))).2.2;rw[QN,QG hr]; exact this
 rw[QN,RC (by omega)]; simp
 rw[QN,RC (by omega)]
 refine⟨by simp,fun r=>?_⟩
 cases r<;>simp
def eJ{i:Nat}(hi:i<F.length):F[i]? = some (F.getD i ([],[])):=by rw[QN,QG hi]; rfl
def jw(hv:Fcs pts F){i:Nat}(hn:1000<n):zD n (F.getD i ([],[])).1 (F.getD i ([],[])).2=some (aj F i):=by
 have h3:=(fb hv i).1;unfold aj at h3;rw[Rl] at h3;exact vp n _ _ (by omega) hn
def E1(hv:Fcs pts F)(hn:1000<n) :
  (∃v t,bJ zE [] (sE F)=some v/\bH (qx n F) n (0,[])=some (.inl t)/\v=t.1)\/(bJ zE [] (sE F)=none/\∃s',bH (qx n F) n (0,[])=some (.inr s')/\nD ([]++sE F) s'):=by
 have hf:=hv.flen;refine oe (B:=qx n F) (len:=F.length) (P:=zE) (g:=fun f=>fE (aj F f) f) (d:=[]) nD (fun t v=>v=t.1) (fun i s hi hs=>?_) (fun s hs=>?_) F.length 0 n [] (by omega) (by omega) rfl (by rw[acc,Rr]; intro p; simp[fk,cS])
 ·obtain⟨h9,h40⟩:=fb hv i;rcases Fb n (rs:=aj F i) (f:=i) hs h9 h40 hn with⟨v,t,h1,h2,h3⟩|⟨h1,s',h2,h3⟩
  ·refine .inl ⟨v,((i:Int),t),h1,?_,h3⟩;unfold qx
   try dsimp only
   rw[aF (by omega),aA hi,aY,bG (eJ hi),ai]
   try dsimp only
   rw[jw n hv hn,ai,h2,ai]
  ·refine .inr ⟨h1,s',?_,h3⟩;unfold qx
   try dsimp only
   rw[aF (by omega),aA hi,aY,bG (eJ hi),ai]
   try dsimp only
   rw[jw n hv hn,ai,h2,ai,aw (by omega)]
 ·unfold qx
  try dsimp only
  rw[aE (by omega)]
end
section
variable{pts:TO I2}{F:TO Fc}(n:Nat)
def E6(hb:fV pts){e:Ed}(he:AA pts e){d:TO Ed}(hS:∀x∈d,AA pts x)(hd:d.length<=50000)(hn:99999<n) :
  ∃w,bH (tv n d pts F e.1 e.2.1 e.2.2.1 e.2.2.2) n 0=some w/\(if xO pts d e then ∃j:Nat,w=.inl (j:Int) else w=.inr ()):=by
 have h1:bH (tv n d pts F e.1 e.2.1 e.2.2.1 e.2.2.2) n 0=some (bL (fun j=>match d[j]? with|some x=>if gY pts e x=true then some (.inl (j:Int)) else none|none=>none) (.inr ()) d.length 0):=by
  refine cQ (len:=d.length) (fun j hj=>?_) ?_ d.length 0 n (by omega) (by omega)
  ·have hy:=QG hj;generalize d[j]=x at hy;unfold tv
   try dsimp only
   rw[aF (by omega)]
   simp only[aA hj,aY,bG hy,ai,hy,aw (show j<4611686018427387904 by omega)]
   rw[KA n hb he (hS x (Q4 hy)) (by omega),ai,ai]
   cases gY pts e x<;>rfl
  ·unfold tv
   try dsimp only
   rw[aE (by omega)]
 refine⟨_,h1,?_⟩;rcases cA (f:=fun j=>match d[j]? with|some x=>if gY pts e x=true then some (.inl (j:Int)) else none|none=>none) (e:=(.inr ():Int⊕TP)) d.length 0 with⟨g1,g2⟩|⟨j,_,g2,g3⟩
 ·rw[g2,QF];intro h;obtain⟨x,hx,hq⟩:=List.any_eq_true.1 h;obtain⟨j,hj,ej⟩:=Ri.1 hx;have:=g1 j (by omega) (by omega)
  try dsimp only at this
  rw[QG hj,ej] at this
  try dsimp only at this
  rw[QH hq] at this;cases this
 ·try dsimp only at g3
  rw[QG (show j<d.length by omega)] at g3
  try dsimp only at g3
  by_cases g:gY pts e d[j]=true
  rw[QH g] at g3;have hc:xO pts d e=true:=List.any_eq_true.2 ⟨_,Q5 _,g⟩;rw[QH hc];exact⟨j,(QL g3).symm⟩
  rw[QF g] at g3; cases g3
def D1(hb:fV pts){l:TO Int}{f r:Nat}{d:TO Ed}(hS:∀x∈d,AA pts x)(hS2:∀i,i<l.length->AA pts (ik l f r i))(hd:d.length<=45000)(hl:l.length<=40)(hn:99999<n) :
  (∃v t,bJ (xO pts) d (rE l f r)=some v/\bH (qC n l pts F (f:Int) (r:Int)) n (0,d)=some (.inl t)/\v=(f:Int))\/(bJ (xO pts) d (rE l f r)=none/\∃s',bH (qC n l pts F (f:Int) (r:Int)) n (0,d)=some (.inr s')/\s'=d++rE l f r):=by
 refine oe (B:=qC n l pts F (f:Int) (r:Int)) (len:=l.length) (P:=xO pts) (g:=fun i=>[ik l f r i]) (d:=d) (fun d s=>s=d) (fun _ v=>v=(f:Int)) (fun i s hi hs=>?_) (fun s hs=>?_) l.length 0 n d (by omega) (by omega) rfl (by rw[acc,Rr])
 ·subst hs;obtain⟨e1,e2⟩:=qU hi;have hi2:(i+1)%l.length<l.length:=Ru _ (by omega)
  have ha:=mV (g:=fun i=>[ik l f r i]) (b:=1) (k:=i) fun i _=>by simp
  have hlen:(d++acc (fun i=>[ik l f r i]) i).length<=50000:=by rw[QV]; omega
  have hS3:∀x∈d++acc (fun i=>[ik l f r i]) i,AA pts x:=fun x hx=>by
   rcases Q3.1 hx with h|h
   exact hS x h
   ·have:∀k,k<=i->x∈acc (fun i=>[ik l f r i]) k->AA pts x:=fun k=>by
     induction k with
     | zero=>intro _ h; cases h
     | succ k ih =>
      intro hk h;rw[acc,Q3,QW] at h;rcases h with h|h
      exact ih (by omega) h
      rw[h]; exact hS2 k (by omega)
    exact this i (QK _) h
  generalize hD:d++acc (fun i=>[ik l f r i]) i=D at *;obtain⟨w,h1,h2⟩:=E6 (F:=F) n hb (hS2 i hi) hS3 hlen hn;have h1':bH (tv n D pts F (l.getD i 0) (l.getD ((i+1)%l.length) 0) (f:Int) (r:Int)) n 0=some w:=h1;have hB:qC n l pts F (f:Int) (r:Int) ((i:Int),D)=if xO pts D (ik l f r i) then some (.inr (.inl D)) else some (.inl (((i+1:Nat):Int),D++[ik l f r i])):=by
   unfold qC
   try dsimp only
   rw[aF (by omega)]
   simp only[aA hi,aY,e1,ai,aw (show i<4611686018427387904 by omega)]
   rw[fL (by omega)]
   simp only[kD,aA hi2,aY,e2,ai];rw[h1',ai]
   by_cases c:xO pts D (ik l f r i)=true
   rw[QH c] at h2 ⊢;obtain⟨j,rfl⟩:=h2;simp only[ai,aF (show(0:Int)<=(j:Int) by omega)]
   rw[QF c] at h2 ⊢;subst h2;simp only[ai,aE (show ¬(0:Int)<=-1 by decide)]
   rw[bw (by rw[QV]; simp; omega),aY]
   rfl
  by_cases c:xO pts D (ik l f r i)=true
  rw[QH c] at hB;exact .inl ⟨(f:Int),D,by rw[bJ,QH c]; rfl,hB,rfl⟩
  rw[QF c] at hB;exact .inr ⟨by rw[bJ,QF c,bJ],_,hB,rfl⟩
 ·unfold qC
  try dsimp only
  rw[aE (by omega)]
end
def ra{α:Type}{g:Nat->TO α}{x:α}:∀{k:Nat},x∈acc g k->∃i,i<k/\x∈g i
 | 0,h=>by cases h
 | k+1,h=>by
  rw[acc,Q3] at h;rcases h with h|h
  obtain⟨i,hi,hx⟩:=ra h;exact⟨i,by omega,hx⟩
  exact⟨k,by omega,h⟩
section
variable{pts:TO I2}{F:TO Fc}(n:Nat)
def Cn(hv:Fcs pts F){f r:Nat}(hf:f<F.length)(hr:r<(aj F f).length):qX pts.length ((aj F f).getD r [])=true/\tB (cJ pts ((aj F f).getD r []) 1):=by
 have e:F.getD f ([],[])=F[f]:=by rw[QN,QG hf]; rfl
 unfold aj at hr ⊢;rw[e] at hr ⊢;have e2:(F[f].1::F[f].2).getD r []=(F[f].1::F[f].2)[r]:=by rw[QN,QG hr]; rfl
 rw[e2];exact⟨(oI (hv.ok _ (Q5 hf))).2 _ (Q5 hr),of_decide_eq_true (QS.1 (hv.va _ (Q5 hf)) _ (Q5 hr))⟩
def wC{l:TO Int}{i:Nat}(hi:i<l.length):nx (cJ pts l 1) i=gA pts (l.getD i 0):=by
 unfold nx cJ;rw[Q0,R9 hi,QN,Rw,QN,QG hi];simp
def vg(hv:Fcs pts F){f r i:Nat}(hf:f<F.length)(hr:r<(aj F f).length)(hi:i<((aj F f).getD r []).length):AA pts (ik ((aj F f).getD r []) f r i):=by
 obtain⟨h1,h2⟩:=Cn hv hf hr;generalize(aj F f).getD r []=l at *;obtain⟨hx,h3,h4⟩:=fT rfl h1;have hi2:(i+1)%l.length<l.length:=Ru _ (by omega)
 have gm:∀k,k<l.length->l.getD k 0∈l:=fun k hk=>by
  rw[QN,QG hk]; exact Q5 _
 refine⟨hx _ (gm i hi),hx _ (gm _ hi2),?_⟩;have hs:=(qZ.1 h2).vr.still i;rw[wC hi] at hs;have:nx (cJ pts l 1) (i+1)=gA pts (l.getD ((i+1)%l.length) 0):=by
  rw[<-wC hi2];exact jD _ (by rw[dM,Nat.mod_mod])
 rw[this] at hs;exact hs
def DM(hv:Fcs pts F){f:Nat}(hf:f<F.length){k:Nat}(hk:k<=(aj F f).length):∀x∈acc (fun r=>rE ((aj F f).getD r []) f r) k,AA pts x:=fun x hx=>by
 obtain⟨r,hr,h⟩:=ra hx;obtain⟨i,hi,h⟩:=ra h;rw[QW] at h;rw[h];exact vg hv hf (by omega) hi
def D0(hv:Fcs pts F){k:Nat}(hk:k<=F.length):∀x∈acc (fun f=>fE (aj F f) f) k,AA pts x:=fun x hx=>by
 obtain⟨f,hf,h⟩:=ra hx;exact DM hv (by omega) (QK _) x h
def ET(hv:Fcs pts F){f:Nat}(hf:f<F.length){d:TO Ed}(hS:∀x∈d,AA pts x)(hd:d.length<=40000)(hn:99999<n) :
  (∃v t,bJ (xO pts) d (fE (aj F f) f)=some v/\bH (ql n (aj F f) pts F (f:Int)) n (0,d)=some (.inl t)/\v=(f:Int))\/(bJ (xO pts) d (fE (aj F f) f)=none/\∃s',bH (ql n (aj F f) pts F (f:Int)) n (0,d)=some (.inr s')/\s'=d++fE (aj F f) f):=by
 obtain⟨h9,h40⟩:=fb hv f;refine oe (B:=ql n (aj F f) pts F (f:Int)) (len:=(aj F f).length) (P:=xO pts) (g:=fun r=>rE ((aj F f).getD r []) f r) (d:=d) (fun d s=>s=d) (fun _ v=>v=(f:Int)) (fun i s hi hs=>?_) (fun s hs=>?_) (aj F f).length 0 n d (by omega) (by omega) rfl (by rw[acc,Rr])
 ·subst hs;have hx:(aj F f)[i]? = some ((aj F f).getD i []):=by rw[QN,QG hi]; rfl
  have ha:=mV (g:=fun r=>rE ((aj F f).getD r []) f r) (b:=40) (k:=i) fun r _=>Rc DY (h40 r);rcases D1 (F:=F) n hv.near (l:=(aj F f).getD i []) (f:=f) (r:=i) (d:=d++acc (fun r=>rE ((aj F f).getD r []) f r) i) (fun x hx=>(Q3.1 hx).elim (hS x) (DM hv hf (by omega) x)) (fun j hj=>vg hv hf hi hj) (by rw[QV]; omega) (h40 i) hn with⟨v,t,h1,h2,h3⟩|⟨h1,s',h2,h3⟩
  ·refine .inl ⟨v,t,h1,?_,h3⟩;unfold ql
   try dsimp only
   rw[aF (by omega),aA hi,aY,bG hx,ai,h2,ai]
  ·refine .inr ⟨h1,s',?_,h3⟩;unfold ql
   try dsimp only
   rw[aF (by omega),aA hi,aY,bG hx,ai,h2,ai,aw (by omega)]
 ·unfold ql
  try dsimp only
  rw[aE (by omega)]
def Gu(hv:Fcs pts F)(hn:99999<n) :
  (∃v t,bJ (xO pts) [] (sE F)=some v/\bH (qz n F pts) n (0,[])=some (.inl t)/\v=t.1)\/(bJ (xO pts) [] (sE F)=none/\∃s',bH (qz n F pts) n (0,[])=some (.inr s')/\s'=[]++sE F):=by
 have hfl:=hv.flen;refine oe (B:=qz n F pts) (len:=F.length) (P:=xO pts) (g:=fun f=>fE (aj F f) f) (d:=[]) (fun d s=>s=d) (fun t v=>v=t.1) (fun i s hi hs=>?_) (fun s hs=>?_) F.length 0 n [] (by omega) (by omega) rfl (by rw[acc,Rr])
 ·subst hs;have ha:=mV (g:=fun f=>fE (aj F f) f) (b:=360) (k:=i) fun j _=>by
   have h1:=mV (g:=fun r=>rE ((aj F j).getD r []) j r) (b:=40) (k:=(aj F j).length) fun r _=>Rc DY ((fb hv j).2 r);have h2:=(fb hv j).1;unfold fE; omega
  rcases ET n hv hi (d:=[]++acc (fun f=>fE (aj F f) f) i) (fun x hx=>D0 hv (k:=i) (by omega) x (by rwa[RR] at hx)) (by rw[RR]; omega) hn with⟨v,t,h1,h2,h3⟩|⟨h1,s',h2,h3⟩
  ·refine .inl ⟨v,((i:Int),t),h1,?_,h3⟩;unfold qz
   try dsimp only
   rw[aF (by omega),aA hi,aY,bG (eJ hi),ai]
   try dsimp only
   rw[jw n hv (by omega),ai,h2,ai]
  ·refine .inr ⟨h1,s',?_,h3⟩;unfold qz
   try dsimp only
   rw[aF (by omega),aA hi,aY,bG (eJ hi),ai]
   try dsimp only
   rw[jw n hv (by omega),ai,h2,ai,aw (by omega)]
 ·unfold qz
  try dsimp only
  rw[aE (by omega)]
end
def vH(pts:TO I2)(l:TO Int):cJ pts l 2=(cJ pts l 1).map (cj 2):=by
 unfold cJ;rw[List.map_map];refine List.map_congr_left fun i _=>Rz ?_ ?_
 show 2*_=1*_*2; omega
 show 2*_=1*_*2; omega
section
variable{pts:TO I2}{F:TO Fc}(n:Nat)
def Ks(hb:fV pts){l:TO Int}(hx:Ix pts l)(h3:3<=l.length)(i:Nat):Nw (nx (cJ pts l 2) i):=by
 have hne:cJ pts l 1≠[]:=fun e=>by have:=dM pts l 1; rw[e] at this; simp at this; omega
 rw[vH,cB _ hne];have:=wo hb hx h3 i;unfold Nr at this;unfold Nw cj
 dsimp only
 omega
def uy(pts:TO I2)(e:Ed):I2:=((gA pts e.1).1+(gA pts e.2.1).1,(gA pts e.1).2+(gA pts e.2.1).2)
def Gg(hb:fV pts){e:Ed}(he:AA pts e):Nw (uy pts e):=by
 have h1:=kS hb he.1;have h2:=kS hb he.2.1;unfold Nr at h1 h2;unfold Nw uy
 dsimp only
 omega
def B3(hb:fV pts){l:TO Int}(h:qX pts.length l=true){p:I2}(hp:Nw p)(hn:1000<n):I8 n (cJ pts l 2) p.1 p.2=some (side (cJ pts l 2) p):=by
 obtain⟨hx,h3,h4⟩:=fT rfl h;exact zv n (fun i=>Ks hb hx h3 i) hp (by rw[dM]; omega) (by rw[dM]; omega)
end
noncomputable def He (pts:TO I2) (o:TO Int) (h:SR) (p:I2):Bool:=decide (side (cJ pts o 2) p=2)&&h.all fun l=>decide (side (cJ pts l 2) p=0)
section
variable{pts:TO I2}{F:TO Fc}(n:Nat)
def EJ(hb:fV pts){o:TO Int}{h:SR}(ho:qX pts.length o=true)(hh:∀l∈h,qX pts.length l=true)(h8:h.length<=8){p:I2}(hp:Nw p)(hn:1000<n):Ez n pts F o h p.1 p.2 2=some (He pts o h p):=by
 obtain⟨hx,h3,h4⟩:=fT rfl ho;unfold Ez He;rw[ml n hb hx (.inr rfl) (by omega) (by omega),ai,B3 n hb ho hp hn,ai]
 by_cases c:side (cJ pts o 2) p=2
 ·rw[aF c,QM c,RE];have hl:bH (qm n h pts F 2 p.1 p.2) n 0=some (bL (fun i=>match h[i]? with|some l=>if decide (side (cJ pts l 2) p=0)=true then none else some (.inl (i:Int))|none=>none) (.inr ()) h.length 0):=by
   refine cQ (len:=h.length) (fun i hi=>?_) ?_ h.length 0 n (by omega) (by omega)
   ·have hy:=QG hi;generalize h[i]=l at hy;obtain⟨gx,g3,g4⟩:=fT rfl (hh l (Q4 hy));unfold qm
    try dsimp only
    rw[aF (by omega),aA hi,aY,bG hy,ai,ml n hb gx (.inr rfl) (by omega) (by omega),ai,B3 n hb (hh l (Q4 hy)) hp hn,ai,ai,aw (by omega),hy]
    try dsimp only
    cases decide (side (cJ pts l 2) p=0)<;>rfl
   ·unfold qm
    try dsimp only
    rw[aE (by omega)]
  rw[hl,ai];rcases cA (f:=fun i=>match h[i]? with|some l=>if decide (side (cJ pts l 2) p=0)=true then none else some (.inl (i:Int))|none=>none) (e:=(.inr ():Int⊕TP)) h.length 0 with⟨g1,g2⟩|⟨j,_,g2,g3⟩
  ·rw[g2];have:(h.all fun l=>decide (side (cJ pts l 2) p=0))=true:=QS.2 fun l hl=>by
    obtain⟨j,hj,ej⟩:=Ri.1 hl;have:=g1 j (by omega) (by omega)
    try dsimp only at this
    rw[QG hj,ej] at this
    try dsimp only at this
    refine QI fun hc=>?_;rw[QF hc] at this; cases this
   rw[this]; rfl
  ·have hj:j<h.length:=by omega
   try dsimp only at g3
   rw[QG hj] at g3
   try dsimp only at g3
   by_cases g:decide (side (cJ pts h[j] 2) p=0)=true
   rw[QH g] at g3; cases g3
   rw[QF g] at g3;have e:=(QL g3).symm;rw[e];have:(h.all fun l=>decide (side (cJ pts l 2) p=0))=false:=by
    cases ha:h.all fun l=>decide (side (cJ pts l 2) p=0)
    rfl
    exact Q1 (QS.1 ha _ (Q5 hj)) g
   rw[this,ai,QO (by omega)]
 rw[aE c,QO c]; rfl
end
def ki{τ:Type}{B:Int->TN (Int⊕τ⊕TP)}{len:Nat}{P:TO Ed->Ed->Bool}{g:Nat->TO Ed}{d:TO Ed}(Q:τ->Int->Prop)
  (hB:∀i:Nat,i<len->(∃v t,bJ P (d++acc g i) (g i)=some v/\B (i:Int)=some (.inr (.inl t))/\Q t v)\/(bJ P (d++acc g i) (g i)=none/\B (i:Int)=some (.inl ((i+1:Nat):Int))))
  (hE:B (len:Int)=some (.inr (.inr ()))) :
  ∀(k i n:Nat),i+k=len->k<n->bJ P d (acc g i)=none ->
   (∃v t,bJ P d (acc g len)=some v/\bH B n (i:Int)=some (.inl t)/\Q t v)\/(bJ P d (acc g len)=none/\bH B n (i:Int)=some (.inr ()))
 | 0,i,n+1,h,_,h0=>by
  rw[RV] at h; subst h;exact .inr ⟨h0,fq hE⟩
 | k+1,i,n+1,h,hn,h0=>by
  rcases hB i (by omega) with⟨v,t,h1,h2,h3⟩|⟨h1,h2⟩
  refine .inl ⟨v,t,?_,fq h2,h3⟩;have:bJ P d (acc g (i+1))=some v:=by rw[acc,jM,h0]; exact h1
  have:=vd this k;rw[show i+1+k=len by omega] at this
  exact this
  rw[fK h2];exact ki Q hB hE k (i+1) n (by omega) (by omega) (by rw[acc,jM,h0]; exact h1)
noncomputable def uC (pts:TO I2) (F:TO Fc) (_:TO Ed) (e:Ed):Bool:=!decide (e.2.2.2=0) && !He pts (F.getD e.2.2.1.toNat ([],[])).1 ((F.getD e.2.2.1.toNat ([],[])).2.take (e.2.2.2-1).toNat++(F.getD e.2.2.1.toNat ([],[])).2.drop e.2.2.2.toNat) (uy pts e)
section
variable{pts:TO I2}{F:TO Fc}(n:Nat)
def LM{h:SR}{r:Nat}(h0:r≠0)(h1:r<=h.length)(h8:h.length<=8):M5 n h (S6 ((r:Int)-1)) (r:Int)=some (h.take ((r:Int)-1).toNat++h.drop ((r:Nat):Int).toNat):=by
 rw[aC (by omega) (by omega)]
 unfold M5;rw[QM (show 0<h.length by omega),QM (show(0:Int)<=(r:Int)-1 by omega),QM (show(r:Int)-1<=(r:Int) by omega),QM (show(r:Int)<=(h.length:Int) by omega),bw (by omega)]
 rfl
def wv(hv:Fcs pts F){f:Nat}(hf:f<F.length):qX pts.length (F.getD f ([],[])).1=true/\(F.getD f ([],[])).2.length<=8/\∀l ∈(F.getD f ([],[])).2,qX pts.length l=true:=by
 have e:F.getD f ([],[])=F[f]:=by rw[QN,QG hf]; rfl
 rw[e];obtain⟨h8,h9⟩:=oI (hv.ok _ (Q5 hf));exact⟨h9 _ (Q7 ..),h8,fun l hl=>h9 l (QQ _ hl)⟩
def FF(hv:Fcs pts F){f r:Nat}(hf:f<F.length)(hr:r<(aj F f).length){d:TO Ed}(hn:99999<n) :
  (∃v t,bJ (uC pts F) d (rE ((aj F f).getD r []) f r)=some v/\bH (qd n ((aj F f).getD r []) (r:Int) (f:Int) F (F.getD f ([],[])).2 pts (F.getD f ([],[])).1) n 0=some (.inl t)/\v=(f:Int)) \/
  (bJ (uC pts F) d (rE ((aj F f).getD r []) f r)=none/\bH (qd n ((aj F f).getD r []) (r:Int) (f:Int) F (F.getD f ([],[])).2 pts (F.getD f ([],[])).1) n 0=some (.inr ())):=by
 have h40:=(fb hv f).2 r;have hs:=fun i=>vg (i:=i) hv hf hr;obtain⟨ho,h8,hh⟩:=wv hv hf;have hrl:r<=(F.getD f ([],[])).2.length:=by unfold aj at hr; rw[Rl] at hr; omega
 generalize(aj F f).getD r []=l at *;refine ki (B:=qd n l (r:Int) (f:Int) F (F.getD f ([],[])).2 pts (F.getD f ([],[])).1) (len:=l.length) (P:=uC pts F) (g:=fun i=>[ik l f r i]) (d:=d) (fun _ v=>v=(f:Int)) (fun i hi=>?_) ?_ l.length 0 n (by omega) (by omega) rfl
 ·obtain⟨e1,e2⟩:=qU hi;have hi2:(i+1)%l.length<l.length:=Ru _ (by omega)
  have hS:=hs i hi;have hB:qd n l (r:Int) (f:Int) F (F.getD f ([],[])).2 pts (F.getD f ([],[])).1 (i:Int)=if uC pts F (d++acc (fun i=>[ik l f r i]) i) (ik l f r i) then some (.inr (.inl ())) else some (.inl ((i+1:Nat):Int)):=by
   have hx:(ik l f r i).1=l.getD i 0:=rfl;have hy:(ik l f r i).2.1=l.getD ((i+1)%l.length) 0:=rfl;unfold qd
   try dsimp only
   rw[aF (by omega)]
   simp only[aA hi,aY,e1,ai,aw (show i<4611686018427387904 by omega)]
   rw[fL (by omega)]
   simp only[kD,aA hi2,aY,e2,ai];rw[<-hx,<-hy]
   by_cases r0:r=0
   subst r0;rw[aF (by omega),ai]
   have:uC pts F (d++acc (fun i=>[ik l f 0 i]) i) (ik l f 0 i)=false:=by unfold uC ik; rfl
   rw[this]; rfl
   ·have hP:uC pts F (d++acc (fun i=>[ik l f r i]) i) (ik l f r i) = !He pts (F.getD f ([],[])).1 ((F.getD f ([],[])).2.take ((r:Int)-1).toNat++(F.getD f ([],[])).2.drop ((r:Nat):Int).toNat) (uy pts (ik l f r i)):=by
     unfold uC
     show(!decide ((r:Int)=0)&&_)=_
     rw[QO (by omega)]; rfl
    rw[aE (by omega),aA hf,aY,show OX n (F.getD f ([],[])).2=some (F.getD f ([],[])).2 by unfold OX; rw[bw (by omega)]; rfl,ai,LM n r0 hrl h8,ai,xP hS.1,aY,nq hS.1,ai]
    try dsimp only
    rw[xP hS.2.1,aY,nq hS.2.1,ai]
    try dsimp only
    have h1:=kS hv.near hS.1;have h2:=kS hv.near hS.2.1;unfold Nr at h1 h2;rw[aC (by omega) (by omega),aC (by omega) (by omega),ai]
    try dsimp only
    have h59:Ez n pts F (F.getD f ([],[])).1 ((F.getD f ([],[])).2.take ((r:Int)-1).toNat++(F.getD f ([],[])).2.drop ((r:Nat):Int).toNat) ((gA pts (ik l f r i).1).1+(gA pts (ik l f r i).2.1).1) ((gA pts (ik l f r i).1).2+(gA pts (ik l f r i).2.1).2) 2=some _ :=
     EJ (F:=F) (p:=uy pts (ik l f r i)) n hv.near ho (fun l hl=>(Q3.1 hl).elim (fun h=>hh l (R3 h)) (fun h=>hh l (R4 h))) (by rw[QV,QX,Rt]; omega) (Gg hv.near hS) (by omega)
    rw[h59,ai,hP];cases He pts (F.getD f ([],[])).1 ((F.getD f ([],[])).2.take ((r:Int)-1).toNat++(F.getD f ([],[])).2.drop ((r:Nat):Int).toNat) (uy pts (ik l f r i))<;>rfl
  by_cases c:uC pts F (d++acc (fun i=>[ik l f r i]) i) (ik l f r i)=true
  rw[QH c] at hB;exact .inl ⟨(f:Int),(),by rw[bJ,QH c]; rfl,hB,rfl⟩
  rw[QF c] at hB;exact .inr ⟨by rw[bJ,QF c,bJ],hB⟩
 ·unfold qd
  try dsimp only
  rw[aE (by omega)]
def FW(hv:Fcs pts F){f:Nat}(hf:f<F.length){d:TO Ed}(hn:99999<n) :
  (∃v t,bJ (uC pts F) d (fE (aj F f) f)=some v/\bH (qk n (aj F f) (f:Int) F (F.getD f ([],[])).2 pts (F.getD f ([],[])).1) n 0=some (.inl t)/\v=(f:Int)) \/
  (bJ (uC pts F) d (fE (aj F f) f)=none/\bH (qk n (aj F f) (f:Int) F (F.getD f ([],[])).2 pts (F.getD f ([],[])).1) n 0=some (.inr ())):=by
 obtain⟨h9,h40⟩:=fb hv f;refine ki (B:=qk n (aj F f) (f:Int) F (F.getD f ([],[])).2 pts (F.getD f ([],[])).1) (len:=(aj F f).length) (P:=uC pts F) (g:=fun r=>rE ((aj F f).getD r []) f r) (d:=d) (fun _ v=>v=(f:Int)) (fun i hi=>?_) ?_ (aj F f).length 0 n (by omega) (by omega) rfl
 ·have hx:(aj F f)[i]? = some ((aj F f).getD i []):=by rw[QN,QG hi]; rfl
  rcases FF n hv hf hi (d:=d++acc (fun r=>rE ((aj F f).getD r []) f r) i) hn with⟨v,t,h1,h2,h3⟩|⟨h1,h2⟩
  ·refine .inl ⟨v,(),h1,?_,h3⟩;unfold qk
   try dsimp only
   rw[aF (by omega),aA hi,aY,bG hx,ai,h2,ai]
  ·refine .inr ⟨h1,?_⟩;unfold qk
   try dsimp only
   rw[aF (by omega),aA hi,aY,bG hx,ai,h2,ai,aw (by omega)]
 ·unfold qk
  try dsimp only
  rw[aE (by omega)]
def CO(hv:Fcs pts F)(hn:99999<n) :
  (∃v t,bJ (uC pts F) [] (sE F)=some v/\bH (lK n F pts) n 0=some (.inl t)/\v=t)\/(bJ (uC pts F) [] (sE F)=none/\bH (lK n F pts) n 0=some (.inr ())):=by
 have hfl:=hv.flen;refine ki (B:=lK n F pts) (len:=F.length) (P:=uC pts F) (g:=fun f=>fE (aj F f) f) (d:=[]) (fun t v=>v=t) (fun i hi=>?_) ?_ F.length 0 n (by omega) (by omega) rfl
 ·rcases FW n hv hi (d:=[]++acc (fun f=>fE (aj F f) f) i) hn with⟨v,t,h1,h2,h3⟩|⟨h1,h2⟩
  ·refine .inl ⟨v,(i:Int),h1,?_,h3⟩;unfold lK
   try dsimp only
   rw[aF (by omega),aA hi,aY,bG (eJ hi),ai]
   try dsimp only
   rw[jw n hv (by omega),ai,h2,ai]
  ·refine .inr ⟨h1,?_⟩;unfold lK
   try dsimp only
   rw[aF (by omega),aA hi,aY,bG (eJ hi),ai]
   try dsimp only
   rw[jw n hv (by omega),ai,h2,ai,aw (by omega)]
 ·unfold lK
  try dsimp only
  rw[aE (by omega)]
end
def Hf{ρ:Type}{r:ρ⊕TP}{q:Nat->Bool}{f:Nat->TN (ρ⊕TP)}{len:Nat}(hf:∀i,i<len->f i=if q i then some r else none):bL f (.inr ()) len 0=if(List.range len).any q then r else .inr ():=by
 rcases cA (f:=f) (e:=.inr ()) len 0 with⟨h1,h2⟩|⟨j,_,h2,h3⟩
 rw[h2,QF];intro h;obtain⟨i,hi,hq⟩:=List.any_eq_true.1 h;rw[RB] at hi;have:=h1 i (by omega) (by omega)
 rw[hf i hi,QH hq] at this; cases this
 have hj:j<len:=by omega
 rw[hf j hj] at h3
 by_cases g:q j=true
 rw[QH g] at h3;rw[QH (List.any_eq_true.2 ⟨j,RB.2 hj,g⟩)];exact(QL h3).symm
 rw[QF g] at h3; cases h3
noncomputable def K4 (pts:TO I2) (F:TO Fc) (e:Ed) (i:Nat):Bool:=!decide ((i:Int)=e.2.2.1)&&He pts (F.getD i ([],[])).1 (F.getD i ([],[])).2 (uy pts e)
noncomputable def zz (pts:TO I2) (F:TO Fc) (_:TO Ed) (e:Ed):Bool:=(List.range F.length).any (K4 pts F e)
section
variable{pts:TO I2}{F:TO Fc}(n:Nat)
def CE(hv:Fcs pts F){e:Ed}(hS:AA pts e)(hn:99999<n):bH (sR n F e.2.2.1 e.1 pts e.2.1) n 0=some (if(List.range F.length).any (K4 pts F e) then .inl () else .inr ()):=by
 have hfl:=hv.flen;rw[<-Hf (r:=(.inl ():TP⊕TP)) (q:=K4 pts F e) (f:=fun i=>if K4 pts F e i then some (.inl ()) else none) (len:=F.length) (fun i _=>rfl)]
 refine cQ (len:=F.length) (fun i hi=>?_) ?_ F.length 0 n (by omega) (by omega)
 ·obtain⟨ho,h8,hh⟩:=wv hv hi;unfold sR
  try dsimp only
  rw[aF (by omega),aA hi,aY,bG (eJ hi),ai]
  try dsimp only
  unfold K4
  by_cases c:(i:Int)=e.2.2.1
  rw[QM c];simp only[Rv,gw,ai,Bool.false_and,Q8,if_false];rw[aw (by omega)]
  ·rw[QO c];rw[Rq,iz,xP hS.1,aY,nq hS.1,ai]
   try dsimp only
   rw[xP hS.2.1,aY,nq hS.2.1,ai]
   try dsimp only
   have h1:=kS hv.near hS.1;have h2:=kS hv.near hS.2.1;unfold Nr at h1 h2;rw[aC (x:=(gA pts e.1).1+(gA pts e.2.1).1) (by omega) (by omega),aC (x:=(gA pts e.1).2+(gA pts e.2.1).2) (by omega) (by omega),ai]
   try dsimp only
   have h59:Ez n pts F (F.getD i ([],[])).1 (F.getD i ([],[])).2 ((gA pts e.1).1+(gA pts e.2.1).1) ((gA pts e.1).2+(gA pts e.2.1).2) 2=some _:=EJ (F:=F) (p:=uy pts e) n hv.near ho hh h8 (Gg hv.near hS) (by omega)
   rw[h59,ai,ai,aw (by omega),RE]
   cases He pts (F.getD i ([],[])).1 (F.getD i ([],[])).2 (uy pts e)<;>rfl
 ·unfold sR
  try dsimp only
  rw[aE (by omega)]
def CA(hv:Fcs pts F){f r:Nat}(hf:f<F.length)(hr:r<(aj F f).length){d:TO Ed}(hn:99999<n) :
  (∃v t,bJ (zz pts F) d (rE ((aj F f).getD r []) f r)=some v/\bH (lC n ((aj F f).getD r []) F (f:Int) pts) n 0=some (.inl t)/\v=(f:Int)) \/
  (bJ (zz pts F) d (rE ((aj F f).getD r []) f r)=none/\bH (lC n ((aj F f).getD r []) F (f:Int) pts) n 0=some (.inr ())):=by
 have h40:=(fb hv f).2 r;have hs:=fun i=>vg (i:=i) hv hf hr;generalize(aj F f).getD r []=l at *;refine ki (B:=lC n l F (f:Int) pts) (len:=l.length) (P:=zz pts F) (g:=fun i=>[ik l f r i]) (d:=d) (fun _ v=>v=(f:Int)) (fun i hi=>?_) ?_ l.length 0 n (by omega) (by omega) rfl
 ·obtain⟨e1,e2⟩:=qU hi;have hi2:(i+1)%l.length<l.length:=Ru _ (by omega)
  have hS:=hs i hi;have h11:=CE n hv hS hn;have hB:lC n l F (f:Int) pts (i:Int)=if zz pts F (d++acc (fun i=>[ik l f r i]) i) (ik l f r i) then some (.inr (.inl ())) else some (.inl ((i+1:Nat):Int)):=by
   unfold lC
   try dsimp only
   rw[aF (by omega)]
   simp only[aA hi,aY,e1,ai,aw (show i<4611686018427387904 by omega)]
   rw[fL (by omega)]
   simp only[kD,aA hi2,aY,e2,ai];unfold zz;unfold ik at h11 ⊢
   dsimp only at h11
   rw[h11];cases(List.range F.length).any (K4 pts F (l.getD i 0,l.getD ((i+1)%l.length) 0,(f:Int),(r:Int)))<;>rfl
  by_cases c:zz pts F (d++acc (fun i=>[ik l f r i]) i) (ik l f r i)=true
  rw[QH c] at hB;exact .inl ⟨(f:Int),(),by rw[bJ,QH c]; rfl,hB,rfl⟩
  rw[QF c] at hB;exact .inr ⟨by rw[bJ,QF c,bJ],hB⟩
 ·unfold lC
  try dsimp only
  rw[aE (by omega)]
def Dv(hv:Fcs pts F){f:Nat}(hf:f<F.length){d:TO Ed}(hn:99999<n) :
  (∃v t,bJ (zz pts F) d (fE (aj F f) f)=some v/\bH (lz n (aj F f) F (f:Int) pts) n 0=some (.inl t)/\v=(f:Int)) \/
  (bJ (zz pts F) d (fE (aj F f) f)=none/\bH (lz n (aj F f) F (f:Int) pts) n 0=some (.inr ())):=by
 obtain⟨h9,h40⟩:=fb hv f;refine ki (B:=lz n (aj F f) F (f:Int) pts) (len:=(aj F f).length) (P:=zz pts F) (g:=fun r=>rE ((aj F f).getD r []) f r) (d:=d) (fun _ v=>v=(f:Int)) (fun i hi=>?_) ?_ (aj F f).length 0 n (by omega) (by omega) rfl
 ·have hx:(aj F f)[i]? = some ((aj F f).getD i []):=by rw[QN,QG hi]; rfl
  rcases CA n hv hf hi (d:=d++acc (fun r=>rE ((aj F f).getD r []) f r) i) hn with⟨v,t,h1,h2,h3⟩|⟨h1,h2⟩
  ·refine .inl ⟨v,(),h1,?_,h3⟩;unfold lz
   try dsimp only
   rw[aF (by omega),aA hi,aY,bG hx,ai,h2,ai]
  ·refine .inr ⟨h1,?_⟩;unfold lz
   try dsimp only
   rw[aF (by omega),aA hi,aY,bG hx,ai,h2,ai,aw (by omega)]
 ·unfold lz
  try dsimp only
  rw[aE (by omega)]
def C9(hv:Fcs pts F)(hn:99999<n) :
  (∃v t,bJ (zz pts F) [] (sE F)=some v/\bH (lE n F pts) n 0=some (.inl t)/\v=t)\/(bJ (zz pts F) [] (sE F)=none/\bH (lE n F pts) n 0=some (.inr ())):=by
 have hfl:=hv.flen;refine ki (B:=lE n F pts) (len:=F.length) (P:=zz pts F) (g:=fun f=>fE (aj F f) f) (d:=[]) (fun t v=>v=t) (fun i hi=>?_) ?_ F.length 0 n (by omega) (by omega) rfl
 ·rcases Dv n hv hi (d:=[]++acc (fun f=>fE (aj F f) f) i) hn with⟨v,t,h1,h2,h3⟩|⟨h1,h2⟩
  ·refine .inl ⟨v,(i:Int),h1,?_,h3⟩;unfold lE
   try dsimp only
   rw[aF (by omega),aA hi,aY,bG (eJ hi),ai]
   try dsimp only
   rw[jw n hv (by omega),ai,h2,ai]
  ·refine .inr ⟨h1,?_⟩;unfold lE
   try dsimp only
   rw[aF (by omega),aA hi,aY,bG (eJ hi),ai]
   try dsimp only
   rw[jw n hv (by omega),ai,h2,ai,aw (by omega)]
 ·unfold lE
  try dsimp only
  rw[aE (by omega)]
end
section
variable{pts:TO I2}{F:TO Fc}(n:Nat)
def mn(hv:Fcs pts F){f:Nat}(hf:f<F.length):∀l∈aj F f,qX pts.length l=true/\tB (cJ pts l 1):=fun l hl=>by
 obtain⟨r,hr,e⟩:=Ri.1 hl;have:=Cn hv hf hr;rw[QN,QG hr] at this;rw[<-e]; exact this
noncomputable def JQ (pts:TO I2) (F:TO Fc):Int×Int:=match bJ zE [] (sE F) with
 | some v=>(7,v)
 | none=>match bJ (xO pts) [] (sE F) with
  | some v=>(8,v)
  | none=>match bJ (uC pts F) [] (sE F) with
   | some v=>(9,v)
   | none=>match bJ (zz pts F) [] (sE F) with
    | some v=>(10,v)
    | none=>(0,0)
def Ml(hv:Fcs pts F)(hn:99999<n):NN n pts F=some (JQ pts F):=by
 unfold NN JQ;rw[ai];rcases E1 n hv (by omega) with⟨v,t,a1,a2,a3⟩|⟨a1,s,a2,a3⟩
 rw[a2,a1,a3]; rfl
 rw[a2,a1,ai];simp only[ai];rcases Gu n hv hn with⟨v,t,b1,b2,b3⟩|⟨b1,s,b2,b3⟩
 rw[b2,b1,b3]; rfl
 rw[b2,b1,ai];simp only[ai];rcases CO n hv hn with⟨v,t,c1,c2,c3⟩|⟨c1,c2⟩
 rw[c2,c1,c3]; rfl
 rw[c2,c1,ai];simp only[ai];rcases C9 n hv hn with⟨v,t,d1,d2,d3⟩|⟨d1,d2⟩
 rw[d2,d1,d3]; rfl
 rw[d2,d1]; rfl
end
section
variable(n:Nat)
def M8(f:Fc):Prop:=f.1.length<=1000/\f.2.length<=1000/\∀h∈f.2,h.length<=1000
def Jp(c:TO I2×TO Fc):Prop:=c.1.length<=1000/\c.2.length<=1000/\∀f∈c.2,M8 f
end
def mF{α:Type}(l:TO α)(k:Nat):(TM l k)=l.take k:=by
 show l.take ((mi (l.length:Int) (k:Int)).toNat-0)=_
 rw[lI,Sd];rcases Nat.le_total l.length k with g|g
 rw[R6 (by omega),R6 g]
 rw[show(min (l.length:Int) (k:Int)).toNat=k by omega]
def qN{α:Type}(l:TO α)(k:Nat):okB 0 (mi (l.length:Int) (k:Int)) l.length=true:=QM (by rw[lI]; omega)
section
variable{α β:Type}
def M4(l:TO α):(TM l 10)=l.take 10:=mF l 10
def Ol(l:TO α):(TM l 42)=l.take 42:=mF l 42
def OS(l:TO α):(TM l 66)=l.take 66:=mF l 66
def N5(l:TO α):(TM l 125)=l.take 125:=mF l 125
def O9(l:TO α):okB 0 (mi (l.length:Int) (10:Int)) l.length=true:=qN l 10
def Oo(l:TO α):okB 0 (mi (l.length:Int) (42:Int)) l.length=true:=qN l 42
def Pn(l:TO α):okB 0 (mi (l.length:Int) (66:Int)) l.length=true:=qN l 66
def OH(l:TO α):okB 0 (mi (l.length:Int) (125:Int)) l.length=true:=qN l 125
def ud{o:TN α}{K:α->TN β}{R:β->Prop}(Q:α->Prop)(h:∃q,o=some q/\Q q)(hK:∀q,Q q->∃c,K q=some c/\R c):∃c,ob o K=some c/\R c:=by
 obtain⟨q,rfl,h2⟩:=h;exact hK q h2
def eV{c:Bool}{A B:TN α}{Q:α->Prop}(h1:c=true->∃q,A=some q/\Q q)(h2:c=false->∃q,B=some q/\Q q):∃q,br c A B=some q/\Q q:=by
 cases c
 exact h2 rfl
 exact h1 rfl
def gK{c:Bool}{A:TN α}{Q:α->Prop}(hc:c=true)(h:∃q,A=some q/\Q q):∃q,gd c A=some q/\Q q:=by
 subst hc; exact h
def qw{l:TO α}{i:Nat}(hi:i<l.length){K:α->TN β}{R:β->Prop}(h:∀x∈l,l[((i:Nat):Int).toNat]? = some x->∃c,K x=some c/\R c):∃c,ob (l[((i:Nat):Int).toNat]?) K=some c/\R c:=by
 have e:=bG (QG hi);rw[e,ai];exact h _ (Q5 hi) e
end
def Kc(f:Fc):Fc:=(f.1.take 42,(f.2.take 10).map fun h=>h.take 42)
def O1(c:TO I2×TO Fc):Prop:=c.1.length<=125/\c.2.length<=66/\∀f∈c.2,f.1.length<=42/\f.2.length<=10/\∀h∈f.2,h.length<=42
def MP(c:TO I2×TO Fc):TO I2×TO Fc:=(c.1.take 125,(c.2.take 66).map Kc)
def Gk(f:Fc):(Kc f).1.length<=42/\(Kc f).2.length<=10/\∀h ∈(Kc f).2,h.length<=42:=by
 unfold Kc;refine⟨by rw[QX]; omega,by rw[Q0,QX]; omega,fun h hh=>?_⟩
 obtain⟨x,_,rfl⟩:=Rj.1 hh;rw[QX]; omega
def Lm(c:TO I2×TO Fc):O1 (MP c):=by
 unfold MP;refine⟨by rw[QX]; omega,by rw[Q0,QX]; omega,fun f hf=>?_⟩
 obtain⟨x,_,rfl⟩:=Rj.1 hf;exact Gk x
def yo(n:Nat){l:TO Int}(h:l.length<=1000):JO n l=some l:=by
 unfold JO; rw[bw (by omega)]; rfl
def GL(n:Nat)(h:SR)(hn:1000<n):bH (uJ n h) n ([],0)=some ((h.take 10).map fun x=>x.take 42):=by
 refine AY (B:=uJ n h) (l:=h.take 10) (fun x=>x.take 42) id (fun i x hx hi=>?_) ?_ (by rw[QX]; omega)
 have h10:(h.take 10).length<=10:=by rw[QX]; omega
 unfold uJ;simp only[M4,Ol,Oo];rw[aF (by omega),aA hi,aY,bG hx,ai,aY,yo n (by rw[QX]; omega),ai,bw (by simp; omega),aY,aw (by omega)]
 unfold uJ;simp only[M4];rw[aE (by omega)]; rfl
def DG(n:Nat)(p:TO I2)(F:TO Fc)(hn:1000<n):MK n p F=some (MP (p,F)):=by
 unfold MK MP;simp only[N5,OH,Pn,aY];rw[show OV n (p.take 125)=some (p.take 125) by unfold OV; rw[bw (by rw[QX]; omega)]; rfl,ai]
 have:bH (um n F) n ([],0)=some ((F.take 66).map Kc):=by
  refine AY (B:=um n F) (l:=F.take 66) Kc id (fun i x hx hi=>?_) ?_ (by rw[QX]; omega)
  ·have h66:(F.take 66).length<=66:=by rw[QX]; omega
   obtain⟨o,h⟩:=x;unfold um;simp only[OS,Ol,Oo,O9];rw[aF (by omega),aA hi,aY,bG hx,ai]
   try dsimp only
   rw[aY,yo n (by rw[QX]; omega),ai,aY,GL n h hn,ai,bw (by simp; omega),aY,aw (by omega)]
   rfl
  unfold um;simp only[OS];rw[aE (by omega)]; rfl
 rw[this]; rfl
def Hb{B:TO Int×Int×Int->TN ((TO Int×Int×Int)⊕TO Int)}{N:Nat}(hN:N<=1000)
  (hB:∀(l:TO Int) (a b:Nat),l.length=N->b<N->a<b->∃l',B (l,(a:Int),(b:Int))=some (.inl (l',((a+1:Nat):Int),((b-1:Nat):Int)))/\l'.length=N)
  (hE:∀(l:TO Int) (a b:Int),¬a<b->B (l,a,b)=some (.inr l)) :
  ∀(k n:Nat) (l:TO Int) (a b:Nat),l.length=N->b<N->b<=a+k->k<n->∃r,bH B n (l,(a:Int),(b:Int))=some r/\r.length=N
 | 0,n+1,l,a,b,hl,_,hk,_=>⟨l,fq (hE l _ _ (by omega)),hl⟩
 | k+1,n+1,l,a,b,hl,hb,hk,hn=>by
  by_cases c:a<b
  obtain⟨l',h1,h2⟩:=hB l a b hl hb c;rw[fK h1];exact Hb hN hB hE k n l' (a+1) (b-1) h2 (by omega) (by omega) (by omega)
  exact⟨l,fq (hE l _ _ (by omega)),hl⟩
def y6(n:Nat){l:TO Int}(hl:l.length<=1000)(hn:2000<n):∃r,bH (sq n l) n (l,0,S6 ((l.length:Int)-1))=some r/\r.length=l.length:=by
 by_cases h0:l.length=0
 ·refine⟨l,?_,rfl⟩;obtain⟨n,rfl⟩:∃k,n=k+1:=⟨n-1,by omega⟩
  refine fq ?_;rw[aC (by omega) (by omega)]
  unfold sq
  try dsimp only
  rw[aE (by omega)]
 rw[aC (by omega) (by omega),show((l.length:Int)-1)=((l.length-1:Nat):Int) by omega]
 refine Hb (B:=sq n l) (N:=l.length) hl (fun l' a b hl' hb hab=>?_) (fun l' a b hab=>?_) (l.length-1) n l 0 (l.length-1) rfl (by omega) (by omega) (by omega)
 ·have e1:l'[((b:Nat):Int).toNat]? = some (l'.getD b 0):=by rw[Rb,QN,QG (by omega)]; rfl
  have e2:l'[((a:Nat):Int).toNat]? = some (l'.getD a 0):=by rw[Rb,QN,QG (by omega)]; rfl
  have hs:∀x,(l'.set ((a:Nat):Int).toNat x)[((b:Nat):Int).toNat]? = some (l'.getD b 0):=fun x=>by
   rw[Rb,List.getElem?_set_ne (by rw[Rb]; omega),<-e1,Rb]
  refine⟨(l'.set ((a:Nat):Int).toNat (l'.getD b 0)).set ((b:Nat):Int).toNat (l'.getD a 0),?_,?_⟩
  ·unfold sq
   try dsimp only
   rw[aF (by omega),aA hb,aY,e1,ai,aA (show a<l.length by omega),aY,e2,ai,aY,aY,hs,ai,aw (by omega),aC (x:=(b:Int)-1) (by omega) (by omega),show((b:Int)-1)=((b-1:Nat):Int) by omega]
  rw[SB,SB]; exact hl'
 ·unfold sq
  try dsimp only
  rw[aE hab]
def D8(n:Nat){l:TO Int}(hl:l.length<=1000)(hn:2000<n):∃r,bH (G7 n l) n (l,0,S6 ((l.length:Int)-1))=some r/\r.length=l.length:=y6 n hl hn
def xC(n:Nat)(x3:Nat){l:TO Int}(hl:l.length<=1000)(hn:2000<n):∀(k m:Nat) (s:SR),10<=s.length+k->k<m->s.length<=20->(∀h∈s,h.length<=1000)->∃r,bH (tp n x3 l) m s=some r/\r.length<=20/\∀h∈r,h.length<=1000
 | 0,m+1,s,hs,_,h20,hh=>by
  have hw:S6 ((x3%2:Nat):Int)=((x3%2:Nat):Int):=aC (by omega) (by omega)
  refine⟨s,fq ?_,h20,hh⟩;unfold tp;rw[hw,aC (by omega) (by omega),aE (by omega)]
 | k+1,m+1,s,hs,hm,h20,hh=>by
  have hw:S6 ((x3%2:Nat):Int)=((x3%2:Nat):Int):=aC (by omega) (by omega)
  by_cases c:(s.length:Int)<8+((x3%2:Nat):Int)
  have hB:tp n x3 l s=some (.inl (s++[l])):=by
   unfold tp;rw[hw,aC (by omega) (by omega),aF c,yo n hl,ai,bw (by simp; omega),aY]
  rw[fK hB];exact xC n x3 hl hn k m (s++[l]) (by simp; omega) (by omega) (by simp; omega) (fun h hh'=>by
   rcases Q3.1 hh' with g|g
   exact hh h g
   rw[QW.1 g]; exact hl)
  refine⟨s,fq ?_,h20,hh⟩;unfold tp;rw[hw,aC (by omega) (by omega),aE c]
def lU{P:TO I2}{G:TO Fc}(hc:O1 (P,G)){y:Fc}(hy:M8 y)(j:Nat):Jp (P,G.set j y):=by
 refine⟨Rc hc.1 (by decide),?_,fun f hf=>?_⟩
 show(G.set j y).length<=1000
 rw[SB]; exact Rc hc.2.1 (by decide)
 rcases List.mem_or_eq_of_mem_set hf with h|h
 have:=hc.2.2 f h;exact⟨by omega,by omega,fun h hh=>by have:=this.2.2 h hh; omega⟩
 rw[h]; exact hy
def jl{P:TO I2}{G:TO Fc}(hc:O1 (P,G)){a:TO Int}{b:SR}(ha:a.length<=1000)(hb:b.length<=1000)(hx:∀x∈b,x.length<=1000)(j:Nat):Jp (P,G.set j (a,b)):=lU hc (y:=(a,b)) ⟨ha,hb,hx⟩ j
def vN{c:TO I2×TO Fc}(h:O1 c):Jp c:=⟨by have:=h.1; omega,by have:=h.2.1; omega,fun f hf=>by
 have:=h.2.2 f hf;exact⟨by omega,by omega,fun x hx=>by have:=this.2.2 x hx; omega⟩⟩
def GF(n:Nat)(x1 x2 x3:Nat)(x4 x5 x6:Int)(p:TO I2)(F:TO Fc)(h2:x2<256)(h3:x3<256)(hn:10000<n):∃c,MU n x1 x2 x3 x4 x5 x6 p F=some c/\Jp c:=by
 unfold MU;rw[DG n p F (by omega),ai]
 have hb:=Lm (p,F);generalize MP (p,F)=c at *;obtain⟨P,G⟩:=c
 try dsimp only
 have hP:P.length<=125:=hb.1;have hG:G.length<=66:=hb.2.1;have w2:S6 ((x2:Nat):Int)=(x2:Int):=aC (by omega) (by omega)
 have w3:S6 ((x3:Nat):Int)=(x3:Int):=aC (by omega) (by omega)
 by_cases e1:(P.length:Int)=0
 rw[aF e1,ai,iz]; exact⟨_,rfl,vN hb⟩
 rw[aE e1,ai]
 by_cases e2:(G.length:Int)=0
 rw[aF e2]; exact⟨_,rfl,vN hb⟩
 rw[aE e2,fL e1,fL e2];simp only[w2,w3,kD];have hj:x2%G.length<G.length:=Ru _ (by omega)
 have hi:x2%P.length<P.length:=Ru _ (by omega)
 have hi3:x3%P.length<P.length:=Ru _ (by omega)
 have hj3:x3%G.length<G.length:=Ru _ (by omega)
 rw[aA hj,aY];refine qw hj fun y hy _=>?_;obtain⟨o,h⟩:=y;have hy':=hb.2.2 _ hy;have ho:o.length<=42:=hy'.1;have hh:h.length<=10:=hy'.2.1;have hhh:∀x∈h,x.length<=42:=hy'.2.2;have hyF:M8 (o,h):=⟨by show o.length<=1000; omega,by show h.length<=1000; omega,fun x hx=>by have:=hhh x hx; omega⟩
 try dsimp only
 refine ud (fun q=>Jp (q.1,q.2.2.2)) ?_ (fun q hq=>?_)
 rotate_left
 obtain⟨a,b,c,d⟩:=q; exact⟨(a,d),rfl,hq⟩
 refine eV (fun _=>?_) (fun _=>?_)
 
 rw[aA hi,aY];refine qw hi fun y _ _=>?_;obtain⟨y1,y2⟩:=y;refine⟨_,rfl,?_⟩;have:=lU hb hyF (x2%G.length);exact⟨by show(List.set ..).length<=_; rw[SB]; omega,this.2⟩
 refine eV (fun _=>?_) (fun _=>?_)
 ·rw[fL e1,aA hi3,aY];refine qw hi3 fun y _ _=>?_;obtain⟨y1,y2⟩:=y
  try dsimp only
  rw[aA hi,aY];refine qw hi fun z _ _=>?_;obtain⟨z1,z2⟩:=z;refine⟨_,rfl,?_⟩;have:=lU hb hyF (x2%G.length);exact⟨by show(List.set ..).length<=_; rw[SB]; omega,this.2⟩
 refine eV (fun _=>?_) (fun _=>?_)
 refine gK (bw (by simp; omega)) ⟨_,rfl,?_⟩
 have:=lU hb hyF (x2%G.length);exact⟨by show List.length (_++_)<=_; simp; omega,this.2⟩
 refine eV (fun _=>?_) (fun _=>?_)
 refine gK (QM ⟨by omega,by omega,by omega⟩) (gK (QM (by omega)) ⟨_,rfl,?_⟩)
 have:=lU hb hyF (x2%G.length);exact⟨by show(List.take ..).length<=_; rw[QX]; omega,this.2⟩
 refine eV (fun _=>?_) (fun _=>?_)
 ·rw[DG n P G (by omega),ai]
  unfold MP
  try dsimp only
  have hl:((G.take 66).map Kc).length=G.length:=by rw[Q0,QX]; omega
  rw[fL e2,aA (by omega),aY]
  refine qw (by omega) fun z hz _=>?_
  obtain⟨z1,z2⟩:=z;refine gK (bw (by simp; omega)) ⟨_,rfl,?_⟩
  have h0:=vN hb;refine⟨h0.1,by show List.length (_++_)<=_; simp; omega,fun f hf=>?_⟩
  rcases Q3.1 hf with g|g
  exact h0.2.2 f g
  rw[QW.1 g];obtain⟨w,_,hw⟩:=Rj.1 hz;have:=Gk w;rw[hw] at this;exact⟨by show z1.length<=1000; have:=this.1; dsimp only at this; omega,by show z2.length<=1000; have:=this.2.1; dsimp only at this; omega,fun x hx=>by have:=this.2.2 x hx; omega⟩
 refine eV (fun _=>?_) (fun _=>?_)
 rw[fL e2,fL e2,ai,aw (by omega)]
 refine ud (fun q=>q.length<=66/\∀f∈q,f∈G) ?_ (fun q hq=>⟨_,rfl,?_⟩)
 unfold PB;refine gK ?_ ⟨_,rfl,?_,fun f hf=>?_⟩
 rw[QM (show 0<G.length by omega),QM (show(0:Int)<=((x2%G.length:Nat):Int) by omega),QM (show((x2%G.length:Nat):Int)<((x2%G.length+1:Nat):Int) by omega),QM (show((x2%G.length+1:Nat):Int)<=(G.length:Int) by omega),bw (by omega)]; rfl
 rw[QV,QX,Rt]; omega
 exact(Q3.1 hf).elim R3 R4
 have h0:=vN hb;exact⟨h0.1,by show q.length<=1000; omega,fun f hf=>h0.2.2 f (hq.2 f hf)⟩
 refine eV (fun _=>?_) (fun _=>?_)
 refine eV (fun c=>?_) (fun _=>⟨_,rfl,lU hb hyF _⟩);have c:=of_decide_eq_true c;have hk:x3%o.length<o.length:=Ru _ (by omega)
 rw[fL (by omega),aA hk,aY]
 refine qw hk fun z _ _=>⟨_,rfl,jl hb ?_ hyF.2.1 hyF.2.2 _⟩;rw[SB]; omega
 refine eV (fun _=>?_) (fun _=>?_)
 obtain⟨r,hr,hl⟩:=y6 n (l:=o) (by omega) (by omega)
 rw[hr,ai,ai];exact⟨_,rfl,jl hb (show r.length<=1000 by omega) hyF.2.1 hyF.2.2 _⟩
 refine eV (fun _=>?_) (fun _=>?_)
 exact⟨_,rfl,jl hb hyF.1 (b:=[]) (RF _) (fun _ hx=>by cases hx) _⟩
 refine eV (fun _=>?_) (fun _=>?_)
 ·rw[fL e2,aA hj3,aY];refine qw hj3 fun z hz _=>?_;obtain⟨z1,z2⟩:=z;have hz1:z1.length<=42:=(hb.2.2 _ hz).1
  try dsimp only
  rw[yo n (by omega),ai,bw (by simp; omega),aY,ai]
  have hw:S6 (((h++[z1]).length:Int)-1)=(h.length:Int):=by
   rw[QV,List.length_singleton,aC (by omega) (by omega)]; omega
  rw[hw,aA (by simp),aY,show(h++[z1])[((h.length:Nat):Int).toNat]? = some z1 by simp,ai]
  obtain⟨r,hr,hl⟩:=D8 n (l:=z1) (by omega) (by omega)
  rw[hr,ai,ai];refine⟨_,rfl,jl hb hyF.1 (by rw[SB,QV]; simp; omega) (fun x hx=>?_) _⟩
  rcases List.mem_or_eq_of_mem_set hx with g|g
  rcases Q3.1 g with g|g
  exact hyF.2.2 x g
  rw[QW.1 g]; omega
  rw[g]; omega
 refine eV (fun _=>?_) (fun _=>?_)
 refine eV (fun c=>?_) (fun _=>⟨_,rfl,lU hb hyF _⟩);have c:=of_decide_eq_true c;have hk:x3%o.length<o.length:=Ru _ (by omega)
 rw[fL (by omega),fL (by omega),ai,aw (by omega)]
 refine ud (fun q=>q.length<=42) ?_ (fun q hq=>⟨_,rfl,jl hb (show q.length<=1000 by omega) hyF.2.1 hyF.2.2 _⟩)
 unfold PT;refine gK ?_ ⟨_,rfl,?_⟩
 rw[QM (show 0<o.length by omega),QM (show(0:Int)<=((x3%o.length:Nat):Int) by omega),QM (show((x3%o.length:Nat):Int)<=((x3%o.length+1:Nat):Int) by omega),QM (show((x3%o.length+1:Nat):Int)<=(o.length:Int) by omega),bw (by omega)]; rfl
 rw[QV,QX,Rt]; omega
 refine eV (fun _=>?_) (fun _=>?_)
 have hk:x3%(o.length+1)<o.length+1:=Ru _ (by omega)
 rw[aw (by omega),fL (by omega),ai,fL e1]
 simp only[kD];refine ud (fun q=>q.length<=43) ?_ (fun q hq=>⟨_,rfl,jl hb (show q.length<=1000 by omega) hyF.2.1 hyF.2.2 _⟩)
 unfold PW;refine gK ?_ ⟨_,rfl,?_⟩
 rw[QM (show(0:Int)<=((x3%(o.length+1):Nat):Int) by omega),QM (show((x3%(o.length+1):Nat):Int)<=(o.length:Int) by omega),bw (by omega)]; rfl
 rw[QV,QV,QX,Rt]; simp; omega
 refine eV (fun _=>?_) (fun _=>?_)
 refine eV (fun c=>?_) (fun _=>⟨_,rfl,lU hb hyF _⟩);have c:=of_decide_eq_true c;have hk:x3%o.length<o.length:=Ru _ (by omega)
 refine gK (QM (by omega)) (gK (QM ⟨by omega,by omega,by omega⟩) ?_)
 rw[yo n (by rw[QX,Rt]; omega),ai]
 refine gK (QM (by omega)) (gK (QM ⟨by omega,by omega,by omega⟩) (gK (bw ?_) ⟨_,rfl,jl hb ?_ hyF.2.1 hyF.2.2 _⟩))
 rw[QV,QX,Rt,QX,Rt]; omega
 rw[QV,QX,Rt,QX,Rt]; omega
 obtain⟨r,hr,hl,hx⟩:=xC n x3 (l:=o) (by omega) (by omega) 10 n h (by omega) (by omega) (by omega) (fun x hx=>hyF.2.2 x hx)
 rw[hr,ai];exact⟨_,rfl,jl hb hyF.1 (show r.length<=1000 by omega) hx _⟩
def wF(n:Nat)(l:TO Nat)(k:Nat):∃r,Jc n l (k:Int)=some r/\True:=by
 unfold Jc;refine eV (fun _=>⟨_,rfl,trivial⟩) (fun c=>?_);have c:=of_decide_eq_false c;have hk:k%l.length<l.length:=Ru _ (by omega)
 rw[fL c,kD,aA hk,aY];exact qw hk fun x _ _=>⟨_,rfl,trivial⟩
def Eu(n:Nat){w:Nat}(hw:w<=5)(y:Int)(l8:TO Nat){l0:TO I2}(h0:l0.length<=1000)(hn:1000<n):∃r,bH (uN n (w:Int) y l8) n (l0,0,0)=some r/\r.length=l0.length+(w+1):=by
 refine fI (B:=uN n (w:Int) y l8) (len:=w+1) (fun i (s:TO I2×Int)=>(s.1,s.2,(i:Int))) (fun i s=>s.1.length=l0.length+i) (fun r=>r.length=l0.length+(w+1)) (fun i s hi hs=>.inl ?_) (fun s hs=>?_) (w+1) 0 (l0,0) n (by omega) (by omega) rfl
 ·obtain⟨l,x⟩:=s
  try dsimp only at hs ⊢
  obtain⟨r,hr,_⟩:=wF n l8 i;refine⟨(l++[(x,y)],S6 ((S6 (x+1))+(Int.tmod r 5))),?_,by simp; omega⟩
  unfold uN
  try dsimp only
  rw[aF (by omega),bw (by simp; omega),aY,hr,ai,aw (by omega)]
 ·obtain⟨l,x⟩:=s;refine⟨l,?_,hs⟩;unfold uN
  try dsimp only
  rw[aE (by omega)]
def Ga(n:Nat){w h:Nat}(hw:w<=5)(hh:h<=5)(l8:TO Nat)(hn:1000<n):∃r,bH (tY n (h:Int) (w:Int) l8) n ([],0,0)=some r/\r.length=(h+1)*(w+1):=by
 refine fI (B:=tY n (h:Int) (w:Int) l8) (len:=h+1) (fun i (s:TO I2×Int)=>(s.1,s.2,(i:Int))) (fun i s=>s.1.length=i*(w+1)) (fun r=>r.length=(h+1)*(w+1)) (fun i s hi hs=>.inl ?_) (fun s hs=>?_) (h+1) 0 ([],0) n (by omega) (by omega) (by simp)
 ·obtain⟨l,y⟩:=s
  try dsimp only at hs ⊢
  have hb:i*(w+1)<=5*(w+1):=RM _ (by omega)
  obtain⟨r,hr,hl⟩:=Eu n hw y l8 (l0:=l) (by omega) hn
  obtain⟨r',hr',_⟩:=wF n l8 (7+i);refine⟨(r,S6 ((S6 (y+1))+(Int.tmod r' 5))),?_,by rw[Sc]; dsimp only; omega⟩
  unfold tY
  try dsimp only
  rw[aF (by omega),hr,ai,aC (x:=7+(i:Int)) (by omega) (by omega),show(7+(i:Int))=((7+i:Nat):Int) by omega,hr',ai,aw (by omega)]
 ·obtain⟨l,y⟩:=s;refine⟨l,?_,hs⟩;unfold tY
  try dsimp only
  rw[aE (by omega)]
def tA(k:Nat)(l:TO Fc):Prop:=l.length<=k/\∀f∈l,M8 f
def kl{k j:Nat}{l m:TO Fc}(h:tA k l)(hm:tA j m):tA (k+j) (l++m):=⟨by rw[QV]; have:=h.1; have:=hm.1; omega,fun f hf=>(Q3.1 hf).elim (h.2 f) (hm.2 f)⟩
def tA.le{k j:Nat}{l:TO Fc}(h:tA k l)(hk:k<=j):tA j l:=⟨by have:=h.1; omega,h.2⟩
def EC{o:TO Int}(h:o.length<=1000):M8 (o,[]):=⟨h,by simp,fun _ hx=>by cases hx⟩
def y7{o:TO Int}(h:o.length<=1000):tA 2 [(o,[])]:=⟨by simp,fun f hf=>by rw[QW.1 hf]; exact EC h⟩
def JW{o o':TO Int}(h:o.length<=1000)(h':o'.length<=1000):tA 2 [(o,[]),(o',[])]:=⟨by simp,fun f hf=>by
 rcases QY.1 hf with e|hf
 rw[e]; exact EC h
 rw[QW.1 hf]; exact EC h'⟩
def zY{k:Nat}{l:TO Fc}(h:tA k l)(hk:k<=1000):lim l.length=true:=bw (by have:=h.1; omega)
def F0(n:Nat){w v:Nat}(hw:w<=5)(hv:v<=5)(l3:TO Nat){k:Nat}(hk:k<=500){l0:TO Fc}(h0:tA k l0)(hn:1000<n):∃r,bH (ry n (w:Int) (v:Int) l3) n (l0,0)=some r/\tA (k+10) r:=by
 refine fI (B:=ry n (w:Int) (v:Int) l3) (len:=w) (fun i (s:TO Fc)=>(s,(i:Int))) (fun i s=>tA (k+2*i) s) (fun r=>tA (k+10) r) (fun i s hi hs=>.inl ?_) (fun s hs=>⟨s,?_,hs.le (by omega)⟩) w 0 l0 n (by omega) (by omega) h0
 ·have hvw:v*w<=5*5:=SH hv hw;obtain⟨q,hq,_⟩:=wF n l3 (v*w+i);have hx:S6 ((S6 ((v:Int)*(w:Int)))+(i:Int))=((v*w+i:Nat):Int):=by
   rw[show((v:Int)*(w:Int))=((v*w:Nat):Int) from(Int.natCast_mul v w).symm,aC (x:=((v*w:Nat):Int)) (by omega) (by omega),aC (by omega) (by omega)]; omega
  have key:∀(s':TO Fc),tA (k+2*i+2) s'->tA (k+2*(i+1)) s':=fun s' h=>h.le (by omega)
  suffices hg:∃c,ry n (w:Int) (v:Int) l3 (s,(i:Int))=some c/\∃s',c=.inl (s',((i+1:Nat):Int))/\tA (k+2*i+2) s' by
   obtain⟨c,h1,s',h2,h3⟩:=hg;exact⟨s',by rw[h1,h2],key s' h3⟩
  unfold ry
  try dsimp only
  rw[aF (by omega)]
  refine ud (fun s'=>tA (k+2*i+2) s') ?_ (fun s' hs'=>⟨_,rfl,s',by rw[aw (by omega)],hs'⟩)
  rw[ai,hx,hq,ai];refine eV (fun _=>?_) (fun _=>eV (fun _=>eV (fun _=>?_) (fun _=>?_)) (fun _=>?_))
  rw[ai,ai];exact gK (zY (kl hs (JW (by simp) (by simp))) (by omega)) ⟨_,rfl,kl hs (JW (by simp) (by simp))⟩
  exact⟨_,rfl,hs.le (by omega)⟩
  rw[ai];exact gK (zY (kl hs (y7 (by simp))) (by omega)) ⟨_,rfl,kl hs (y7 (by simp))⟩
  rw[ai];exact gK (zY (kl hs (y7 (by simp))) (by omega)) ⟨_,rfl,kl hs (y7 (by simp))⟩
 ·unfold ry
  try dsimp only
  rw[aE (by omega)]
def FU(n:Nat){w h:Nat}(hw:w<=5)(hh:h<=5)(l3:TO Nat)(hn:1000<n):∃r,bH (ua n (h:Int) (w:Int) l3) n ([],0)=some r/\tA 50 r:=by
 refine fI (B:=ua n (h:Int) (w:Int) l3) (len:=h) (fun i (s:TO Fc)=>(s,(i:Int))) (fun i s=>tA (10*i) s) (fun r=>tA 50 r) (fun i s hi hs=>.inl ?_) (fun s hs=>⟨s,?_,hs.le (by omega)⟩) h 0 [] n (by omega) (by omega) ⟨by simp,fun _ hx=>by cases hx⟩
 ·obtain⟨r,hr,hb⟩:=F0 n hw (v:=i) (by omega) l3 (k:=10*i) (by omega) hs hn
  refine⟨r,?_,hb.le (by omega)⟩
  unfold ua
  try dsimp only
  rw[aF (by omega),hr,ai,aw (by omega)]
 ·unfold ua
  try dsimp only
  rw[aE (by omega)]
def Kj(n:Nat)(x1 x2:Nat)(l3 l8:TO Nat)(b:Bool)(hn:1000<n):∃c,MT n x1 x2 l3 l8 b=some c/\Jp c:=by
 have hwh:∃w h:Nat,w<=5/\h<=5/\(br b (some ((3:Int),(3:Int))) (some (S6 (1+(S6 ((x1%4:Nat):Int))),S6 (1+(S6 ((x2%3:Nat):Int))))))=some ((w:Int),(h:Int)):=by
  cases b
  refine⟨1+x1%4,1+x2%3,by omega,by omega,?_⟩
  rw[gw,aC (x:=((x1%4:Nat):Int)) (by omega) (by omega),aC (x:=((x2%3:Nat):Int)) (by omega) (by omega),aC (by omega) (by omega),aC (by omega) (by omega)]
  rfl
  exact⟨3,3,by omega,by omega,rfl⟩
 obtain⟨w,h,hw,hh,e⟩:=hwh;unfold MT;rw[e,ai]
 try dsimp only
 obtain⟨P,hP,hPl⟩:=Ga n hw hh l8 hn;have hPb:P.length<=1000:=by
  have:(h+1)*(w+1)<=6*6:=SH (by omega) (by omega)
  omega
 rw[hP,ai];cases b
 rw[gw];obtain⟨r,hr,hb⟩:=FU n hw hh l3 hn;rw[hr,ai];exact⟨_,rfl,hPb,by have:=hb.1; show r.length<=1000; omega,hb.2⟩
 rw[iz];have h1:tA 1 ([([0,1,2,3,7,11,15,14,13,12,8,4],[[5,9,10,6]])]:TO Fc):=⟨by simp,fun f hf=>by
  rw[QW.1 hf];exact⟨by simp,by simp,fun x hx=>by rw[QW.1 hx]; simp⟩⟩
 refine gK (bw (by simp)) (ud (fun l=>tA 5 l) ?_ (fun l hl=>⟨_,rfl,hPb,by have:=hl.1; show l.length<=1000; omega,hl.2⟩))
 obtain⟨q,hq,_⟩:=wF n l3 0;rw[show Jc n l3 0=some q from hq,ai]
 refine eV (fun _=>gK (bw (by simp)) ⟨_,rfl,?_⟩) (fun _=>⟨_,rfl,h1.le (by omega)⟩)
 exact(kl h1 (y7 (o:=[5,6,10,9]) (by simp))).le (by omega)
def N8(n:Nat)(x1 x2:Nat)(l3 l8:TO Nat)(b:Bool)(x14 x15 x16:Nat)(x17 x18 x19:Int)(x20 x21 x22:Nat)(x23 x24 x25:Int)(h15:x15<256)(h16:x16<256)(h21:x21<256)(h22:x22<256)(hn:10000<n) :
  ∃c d e,F7 n x1 x2 l3 l8 b x14 x15 x16 x17 x18 x19 x20 x21 x22 x23 x24 x25=some (c.1,c.2,d.1,d.2,e.1,e.2)/\Jp c/\Jp d/\Jp e/\MT n x1 x2 l3 l8 b=some c:=by
 obtain⟨c,h1,b1⟩:=Kj n x1 x2 l3 l8 b (by omega)
 obtain⟨d,h2,b2⟩:=GF n x14 x15 x16 x17 x18 x19 c.1 c.2 h15 h16 hn;obtain⟨e,h3,b3⟩:=GF n x20 x21 x22 x23 x24 x25 d.1 d.2 h21 h22 hn;refine⟨c,d,e,?_,b1,b2,b3,h1⟩;unfold F7;rw[h1,ai]
 try dsimp only
 rw[h2,ai]
 try dsimp only
 rw[h3,ai]
section
variable{pts:TO I2}{F:TO Fc}(n:Nat)
def Kb{p:I2}(h:Nr p):Nw p:=by unfold Nr at h; unfold Nw; omega
def vF(hb:fV pts){l:TO Int}(h:qX pts.length l=true){p:I2}(hp:Nw p)(hn:1000<n):I8 n (cJ pts l 1) p.1 p.2=some (side (cJ pts l 1) p):=by
 obtain⟨hx,h3,h4⟩:=fT rfl h;exact zv n (fun i=>Kb (wo hb hx h3 i)) hp (by rw[dM]; omega) (by rw[dM]; omega)
end
noncomputable def Ac (pts:TO I2) (o:TO Int) (h:SR) (p:I2):Bool:=decide (side (cJ pts o 1) p=2)&&h.all fun l=>decide (side (cJ pts l 1) p=0)
section
variable{pts:TO I2}{F:TO Fc}(n:Nat)
def HG(hb:fV pts){o:TO Int}{h:SR}(ho:qX pts.length o=true)(hh:∀l∈h,qX pts.length l=true)(h8:h.length<=8){p:I2}(hp:Nw p)(hn:1000<n):Ez n pts F o h p.1 p.2 1=some (Ac pts o h p):=by
 obtain⟨hx,h3,h4⟩:=fT rfl ho;unfold Ez Ac;rw[ml n hb hx (.inl rfl) (by omega) (by omega),ai,vF n hb ho hp hn,ai]
 by_cases c:side (cJ pts o 1) p=2
 ·rw[aF c,QM c,RE];have hl:bH (qm n h pts F 1 p.1 p.2) n 0=some (bL (fun i=>match h[i]? with|some l=>if decide (side (cJ pts l 1) p=0)=true then none else some (.inl (i:Int))|none=>none) (.inr ()) h.length 0):=by
   refine cQ (len:=h.length) (fun i hi=>?_) ?_ h.length 0 n (by omega) (by omega)
   ·have hy:=QG hi;generalize h[i]=l at hy;obtain⟨gx,g3,g4⟩:=fT rfl (hh l (Q4 hy));unfold qm
    try dsimp only
    rw[aF (by omega),aA hi,aY,bG hy,ai,ml n hb gx (.inl rfl) (by omega) (by omega),ai,vF n hb (hh l (Q4 hy)) hp hn,ai,ai,aw (by omega),hy]
    try dsimp only
    cases decide (side (cJ pts l 1) p=0)<;>rfl
   ·unfold qm
    try dsimp only
    rw[aE (by omega)]
  rw[hl,ai];rcases cA (f:=fun i=>match h[i]? with|some l=>if decide (side (cJ pts l 1) p=0)=true then none else some (.inl (i:Int))|none=>none) (e:=(.inr ():Int⊕TP)) h.length 0 with⟨g1,g2⟩|⟨j,_,g2,g3⟩
  ·rw[g2];have:(h.all fun l=>decide (side (cJ pts l 1) p=0))=true:=QS.2 fun l hl=>by
    obtain⟨j,hj,ej⟩:=Ri.1 hl;have:=g1 j (by omega) (by omega)
    try dsimp only at this
    rw[QG hj,ej] at this
    try dsimp only at this
    refine QI fun hc=>?_;rw[QF hc] at this; cases this
   rw[this]; rfl
  ·have hj:j<h.length:=by omega
   try dsimp only at g3
   rw[QG hj] at g3
   try dsimp only at g3
   by_cases g:decide (side (cJ pts h[j] 1) p=0)=true
   rw[QH g] at g3; cases g3
   rw[QF g] at g3;have e:=(QL g3).symm;rw[e];have:(h.all fun l=>decide (side (cJ pts l 1) p=0))=false:=by
    cases ha:h.all fun l=>decide (side (cJ pts l 1) p=0)
    rfl
    exact Q1 (QS.1 ha _ (Q5 hj)) g
   rw[this,ai,QO (by omega)]
 rw[aE c,QO c]; rfl
end
section
variable{pts:TO I2}{F:TO Fc}(n:Nat)
end
def I3{q:Nat->Bool}{len:Nat}:(∃j:Nat,bL (fun i=>if q i then some (.inl (i:Int)) else none) (.inr ():Int⊕TP) len 0=.inl (j:Int)/\(List.range len).any q=true)\/(bL (fun i=>if q i then some (.inl (i:Int)) else none) (.inr ():Int⊕TP) len 0=.inr ()/\(List.range len).any q=false):=by
 rcases cA (f:=fun i=>if q i then some (.inl (i:Int)) else none) (e:=(.inr ():Int⊕TP)) len 0 with⟨h1,h2⟩|⟨j,_,h2,h3⟩
 refine .inr ⟨h2,?_⟩;rw[List.any_eq_false];intro i hi c;have:=h1 i (by omega) (by have:=RB.1 hi; omega)
 rw[QH c] at this; cases this
 by_cases g:q j=true
 rw[QH g] at h3;exact .inl ⟨j,(QL h3).symm,List.any_eq_true.2 ⟨j,RB.2 (by omega),g⟩⟩
 rw[QF g] at h3; cases h3
section
variable{pts:TO I2}{F:TO Fc}(n:Nat)
noncomputable def BW (pts:TO I2) (rs:SR) (p:I2) (i:Nat):Bool:=decide (side (cJ pts (rs.getD i []) 1) p=1)
noncomputable def toQ (pts:TO I2) (F:TO Fc) (p:I2) (i:Nat):Bool:=Ac pts (F.getD i ([],[])).1 (F.getD i ([],[])).2 p ||(List.range (aj F i).length).any (BW pts (aj F i) p)
def FA(hv:Fcs pts F){rs:SR}(h9:rs.length<=9)(ho:∀l∈rs,qX pts.length l=true/\tB (cJ pts l 1)){p:I2}(hp:Nw p)(hn:1000<n):bH (yX n rs pts F p.1 p.2) n 0=some (bL (fun i=>if BW pts rs p i then some (.inl (i:Int)) else none) (.inr ()) rs.length 0):=by
 refine cQ (len:=rs.length) (fun i hi=>?_) ?_ rs.length 0 n (by omega) (by omega)
 ·have hy:=QG hi;have eg:rs.getD i []=rs[i]:=by rw[QN,hy]; rfl
  unfold yX BW;rw[eg];generalize rs[i]=l at hy;obtain⟨h1,h2⟩:=ho l (Q4 hy);obtain⟨gx,g3,g4⟩:=fT rfl h1
  try dsimp only
  rw[aF (by omega),aA hi,aY,bG hy,ai,ml n hv.near gx (.inl rfl) (by omega) (by omega),ai,vF n hv.near h1 hp hn,ai,ai,aw (by omega)]
  cases decide (side (cJ pts l 1) p=1)<;>rfl
 ·unfold yX
  try dsimp only
  rw[aE (by omega)]
end
def fc(E:TO Ed)(a b:Int):Int:=E.foldl (fun x e=>if e.1=a/\e.2.1=b then e.2.2.1 else x) (-1)
structure Wm(N:Nat)(E:TO Ed)(m:TO ((Int×Int)×fe)):Prop where
 nd:(m.map Prod.fst).Nodup
 rg:∀p∈m.map Prod.fst,0<=p.1/\p.1<p.2/\p.2<N
 get:∀i k:Int,i<k->fk m (i,k)=if 0<=fc E i k\/0<=fc E k i then some (i,k,fc E i k,fc E k i) else none
section
variable{pts:TO I2}{F:TO Fc}(n:Nat)
end
end Go.Proofs.Ytmndpgfbkicndaa
end
section
namespace Jd
abbrev Eg:=I2×I2
def fY{α:Type}(f:α->Int):TO α->Int
 | []=>0
 | a::l=>f a+fY f l
section
variable{α β:Type}
def wm(f:α->Int):∀(l k:TO α),fY f (l++k)=fY f l+fY f k
 | [],k=>by simp[fY]
 | a::l,k=>by rw[Sn,fY,fY,wm f l k]; omega
def jN{f g:α->Int}:∀{l:TO α},(∀a∈l,f a=g a)->fY f l=fY g l
 | [],_=>rfl
 | a::l,h=>by rw[fY,fY,h a Q7,jN fun b hb=>h b (QQ _ hb)]
def Cc(f g:α->Int):∀(l:TO α),fY (fun a=>f a+g a) l=fY f l+fY g l
 | []=>rfl
 | a::l=>by rw[fY,fY,fY,Cc f g l]; omega
def Bt(c:Int)(f:α->Int):∀(l:TO α),fY (fun a=>c*f a) l=c*fY f l
 | []=>by simp[fY]
 | a::l=>by rw[fY,fY,Bt c f l,Int.mul_add]
def BU(f:α->Int)(l:TO α):fY (fun a=>-f a) l = -fY f l:=by
 have:=Bt (-1) f l;rw[show(fun a=>-1*f a)=fun a=>-f a from funext fun a=>by omega] at this
 omega
def mw{f:α->Int}:∀{l:TO α},(∀a∈l,f a=0)->fY f l=0
 | [],_=>rfl
 | a::l,h=>by rw[fY,h a Q7,mw fun b hb=>h b (QQ _ hb)]; rfl
def vk(f:β->Int)(g:α->β):∀(l:TO α),fY f (l.map g)=fY (fun a=>f (g a)) l
 | []=>rfl
 | a::l=>by rw[RQ,fY,fY,vk f g l]
def zl(f:β->Int)(g:α->TO β):∀(l:TO α),fY f (l.flatMap g)=fY (fun a=>fY f (g a)) l
 | []=>rfl
 | a::l=>by rw[Sz,wm,fY,zl f g l]
def vv{f:α->Int}{a:α}:∀{l:TO α},l.Nodup->a∈l->(∀b∈l,b≠a->f b=0)->fY f l=f a
 | [],_,h,_=>by cases h
 | b::l,hd,hm,hz=>by
  obtain⟨h1,h2⟩:=Sb.1 hd;rw[fY];rcases QY.1 hm with rfl|hm
  rw[mw fun c hc=>hz c (QQ _ hc) fun e=>h1 (e▸hc)]; omega
  rw[hz b Q7 fun e=>h1 (e▸hm),vv h2 hm fun c hc=>hz c (QQ _ hc)]; omega
def A0{f:α->Int}:∀{l:TO α},(∀a∈l,0<=f a)->0<=fY f l
 | [],_=>Int.le_refl 0
 | a::l,h=>by
  rw[fY];have:=h a Q7;have:=A0 fun b hb=>h b (QQ _ hb);omega
def Gx{f:α->Int}{a:α}:∀{l:TO α},(∀a∈l,0<=f a)->a∈l->f a<=fY f l
 | [],_,h=>by cases h
 | b::l,h,hm=>by
  rw[fY];rcases QY.1 hm with rfl|hm
  have:=A0 fun b hb=>h b (QQ _ hb);omega
  have:=h b Q7;have:=Gx (fun b hb=>h b (QQ _ hb)) hm;omega
def s5(f:Nat->Int):∀n,bo n f=fY f (List.range n)
 | 0=>rfl
 | n+1=>by rw[List.range_succ,wm,bo,s5 f n,fY,fY]; omega
def td{X:α->Rat}{P:α->Prop}:∀{l:TO α},(∃a,a∈l/\P a)->∃a,a∈l/\P a/\∀b∈l,P b->X a<=X b
 | [],h=>by obtain⟨a,h,_⟩:=h; cases h
 | c::l,h=>by
  by_cases hl:∃a,a∈l/\P a
  obtain⟨a,h1,h2,h3⟩:=td (X:=X) hl
  by_cases hc:P c/\X c<=X a
  refine⟨c,Q7,hc.1,fun b hb hP=>?_⟩;rcases QY.1 hb with rfl|hb
  exact Rat.le_refl
  exact Rat.le_trans hc.2 (h3 b hb hP)
  refine⟨a,QQ _ h1,h2,fun b hb hP=>?_⟩;rcases QY.1 hb with rfl|hb
  have:¬X b<=X a:=fun h=>hc ⟨hP,h⟩
  grind
  exact h3 b hb hP
  obtain⟨a,h1,h2⟩:=h;rcases QY.1 h1 with rfl|h1
  refine⟨a,Q7,h2,fun b hb hP=>?_⟩;rcases QY.1 hb with rfl|hb
  exact Rat.le_refl
  exact Q1 ⟨b,hb,hP⟩ hl
  exact Q1 ⟨a,h1,h2⟩ hl
end
def iq(r:TO I2):TO Eg:=(List.range r.length).map fun i=>(nx r i,nx r (i+1))
def wr(E:TO Eg)(p:P2):Int:=fY (fun e=>we (ca e.1) (ca e.2) p) E
def wu(r:TO I2)(p:P2):wr (iq r) p=W r.length (fun i=>ca (nx r i)) p:=by
 unfold wr iq W;rw[vk,s5]
def Jx{α:Type}(g:α->TO Eg)(l:TO α)(p:P2):wr (l.flatMap g) p=fY (fun a=>wr (g a) p) l:=zl _ _ _
def de(e:Eg)(y:Rat):Int:=dd (ca e.1) (ca e.2) y
def Bs(E:TO Eg)(y:Rat):Prop:=∀e∈E,(ca e.1).2≠y/\(ca e.2).2≠y
def Xc(e:Eg)(y X:Rat):Prop:=(∀q:P2,q.2=y->we (ca e.1) (ca e.2) q=if q.1<X then de e y else 0) /\
 (de e y≠0->∃t,0<t/\t<1/\cv (ca e.1) (ca e.2) t=(X,y))
open Classical in
noncomputable def xc (e:Eg) (y:Rat):Rat:=if h:∃X,Xc e y X then h.choose else 0
def uh{e:Eg}{y:Rat}(h1:(ca e.1).2≠y)(h2:(ca e.2).2≠y):Xc e y (xc e y):=by
 have h:∃X,Xc e y X:=xj h1 h2;unfold xc;rw[dif_pos h];exact h.choose_spec
def Mj{u w q:P2}{t X y:Rat}(h:cv u w t=(X,y))(hq:q.2=y):tn u w q=(w.2-u.2)*(X-q.1):=by
 unfold cv at h;have a:=Rf Prod.fst h;have b:=Rf Prod.snd h;unfold tn
 dsimp only at a b
 rw[hq]
 grind
def rl{E:TO Eg}{y:Rat}(hE:Bs E y){q:P2}(hq:q.2=y):wr E q=fY (fun e=>if q.1<xc e y then de e y else 0) E :=
 jN fun e he=>(uh (hE e he).1 (hE e he).2).1 q hq
def KL(E:TO Eg)(p:P2):Prop:=∀e∈E,de e p.2≠0->p.1≠xc e p.2
def xq{E:TO Eg}{p:P2}{X:Rat}(hE:Bs E p.2)(hp:p.1<X)(hmin:∀e∈E,de e p.2≠0->p.1<xc e p.2->X<=xc e p.2) :
  wr E p=wr E (X,p.2)+fY (fun e=>if xc e p.2=X then de e p.2 else 0) E:=by
 rw[rl hE rfl,rl hE (q:=(X,p.2)) rfl,<-Cc];refine jN fun e he=>?_
 by_cases hd:de e p.2=0
 rw[hd]; simp
 have:=hmin e he hd
 dsimp only
 by_cases h1:p.1<xc e p.2
 have h2:=this h1;rw[QH h1]
 by_cases h3:xc e p.2=X
 rw[QH h3,QF (by rw[h3]; grind)]; omega
 rw[QF h3,QH (by grind)]; omega
 rw[QF h1,QF (by grind),QF (by grind)]; rfl
def AR{E:TO Eg}{p:P2}(hE:Bs E p.2)(h:wr E p≠0):∃e,e∈E/\de e p.2≠0/\p.1<xc e p.2:=by
 refine QI fun hc=>h ?_;rw[rl hE rfl];refine mw fun e he=>?_
 by_cases hd:de e p.2=0
 rw[hd]; simp
 exact QF fun hx=>hc ⟨e,he,hd,hx⟩
def Gp(E:TO Eg)(X y:Rat):∃x,X<x/\∀e∈E,de e y≠0->X<xc e y->x<xc e y:=by
 by_cases h:∃e,e∈E/\(de e y≠0/\X<xc e y)
 obtain⟨a,h1,h2,h3⟩:=td (X:=fun e=>xc e y) h;exact⟨(X+xc a y)/2,by grind,fun e he hd hx=>by have:=h3 e he ⟨hd,hx⟩; grind⟩
 exact⟨X+1,by grind,fun e he hd hx=>Q1 ⟨e,he,hd,hx⟩ h⟩
def xm{E:TO Eg}{X y x:Rat}(hE:Bs E y)(hx:X<x)(h:∀e∈E,de e y≠0->X<xc e y->x<xc e y):wr E (x,y)=wr E (X,y)/\KL E (x,y):=by
 refine⟨?_,fun e he hd hc=>?_⟩
 rw[rl hE (q:=(x,y)) rfl,rl hE (q:=(X,y)) rfl];refine jN fun e he=>?_
 by_cases hd:de e y=0
 rw[hd]; simp
 have:=h e he hd
 dsimp only
 by_cases h1:X<xc e y
 rw[QH h1,QH (this h1)]
 rw[QF h1,QF (by grind)]
 dsimp only at hc hd
 have:=h e he hd (by rw[<-hc]; exact hx)
 grind
def Ld(e:Eg)(y:Rat):de e y=0\/de e y=1\/de e y = -1:=by
 unfold de dd
 split
 exact .inr (.inl rfl)
 split
 exact .inr (.inr rfl)
 exact .inl rfl
def Ai(e:Eg)(y:Rat):de (e.2,e.1) y = -de e y:=by
 unfold de dd
 by_cases h1:(ca e.1).2<y/\y<(ca e.2).2
 rw[QH h1,QF (by grind),QH h1]
 by_cases h2:(ca e.2).2<y/\y<(ca e.1).2
 rw[QH h2,QF h1,QH h2]; rfl
 rw[QF h1,QF h2,QF h2,QF h1]; rfl
def Lo{r:TO I2}(h:VR r){s:Int}(g:Sg r s)(hs:s=1\/s = -1):(0<kU r->s=1)/\(kU r<0->s = -1):=by
 obtain⟨K,K0,hK⟩:=(Lg.all (n:=r.length) (P:=fun i K=>-K<(nx r i).1/\(nx r i).1<K/\-K<(nx r i).2/\(nx r i).2<K) fun i _ =>
  (Lg.ge (max (max (nx r i).1 (-(nx r i).1)) (max (nx r i).2 (-(nx r i).2))+1)).imp fun K h=>by omega).get
 have hb:∀i,Inb (-K) (-K) (2*K).toNat (2*K).toNat (nx r i):=fun i=>by
  have:=hK (i%r.length) (Ru _ (by have:=h.n3; omega))
  rw[jD r (Nat.mod_mod i r.length)] at this;exact⟨by omega,by omega,by omega,by omega⟩
 have e:=sh hb;have key:∀p,(s=1->0<=Jd.dh r p+iE r p)/\(s = -1->Jd.dh r p+iE r p<=0):=fun p=>by
  have a:=g.zB h p;have b:=g.B8 h p;omega
 constructor
 intro ha;refine hs.resolve_right fun hs=>?_;have:bx (-K) (-K) (2*K).toNat (2*K).toNat (fun p=>Jd.dh r p+iE r p)<=0:=jh fun i _=>jh fun j _=>(key _).2 hs;omega
 intro ha;refine hs.resolve_left fun hs=>?_;have:bx (-K) (-K) (2*K).toNat (2*K).toNat (fun p=>-(Jd.dh r p+iE r p))<=0:=jh fun i _=>jh fun j _=>by have:=(key (-K+i,-K+j)).1 hs; dsimp only; omega
 rw[Ay] at this;omega
def zr{r:TO I2}(h:VR r):∃s:Int,(s=1\/s = -1)/\(0<kU r->s=1)/\(kU r<0->s = -1)/\Sg r s /\
  ∀p:P2,Bs (iq r) p.2->KL (iq r) p->wr (iq r) p=0\/wr (iq r) p=s:=by
 obtain⟨s,hs,hm⟩:=h.simple.sign;have g:Sg r s:=h.GQ hm;have:=Lo h g hs;refine⟨s,hs,this.1,this.2,g,fun p hg ho=>?_⟩;rw[wu];refine hm p fun i hi hl=>?_;have he:(nx r i,nx r (i+1))∈iq r:=Rj.2 ⟨i,RB.2 hi,rfl⟩;obtain⟨g1,g2⟩:=hg _ he
 dsimp only at g1 g2
 have hd:de (nx r i,nx r (i+1)) p.2≠0:=by
  unfold de dd
  dsimp only
  rcases hl with⟨a,b⟩|⟨a,b⟩
  rw[QH ⟨by grind,b⟩]; decide
  rw[QF (by grind),QH ⟨by grind,b⟩]; decide
 obtain⟨t,t0,t1,ht⟩:=(uh (e:=(nx r i,nx r (i+1))) g1 g2).2 hd;have hx:=ho _ he hd;rw[Mj ht rfl]
 dsimp only
 intro h0;have h3:xc (nx r i,nx r (i+1)) p.2-p.1≠0:=by grind
 rcases Rat.mul_eq_zero.1 h0 with k|k
 grind
 exact h3 k
def vn(a b:I2):Lx a b\/Lx b a:=by unfold Lx; omega
def yk{a b x:I2}(h:cz a b x):0<=di a x b:=by
 obtain⟨_,h1,h2,h3,h4⟩:=h;have key:∀{a b x:Int},min a b<=x->x<=max a b->0<=(x-a)*(b-x):=fun{a b x} g1 g2=>by
  rcases Int.le_total a b with g|g
  exact R8 (by omega) (by omega)
  exact R7 (by omega) (by omega)
 have:=key h1 h2;have:=key h3 h4;unfold di; omega
def CR{x u w:I2}(h0:ti x u w=0)(hd:di x u w<0)(hx:x≠u)(hw:u≠w):cz u w x\/cz x u w:=by
 have r1:ti u w x=0:=by rw[E3]; exact h0
 have r2:ti w x u=0:=by rw[E3]; exact r1
 have r3:ti x w u=0:=by rw[eh]; omega
 have r4:ti u x w=0:=by rw[eh]; omega
 have r5:ti w u x=0:=by rw[eh]; omega
 rcases vn u x with a|a<;>rcases vn u w with b|b
 rcases vn x w with c|c
 exact .inl ((nV hw b).2 ⟨r1,a,c⟩)
 exact .inr ((nV (Ne.symm hx) a).2 ⟨r4,b,c⟩).swap
 by_cases e:w=x
 subst e; exact .inl (pg _ _)
 have h:Lx w x:=by unfold Lx at *; omega
 exact Q1 (yk ((nV e h).2 ⟨r2,b,a⟩).swap) (by omega)
 by_cases e:x=w
 subst e; exact .inl (pg _ _)
 have h:Lx x w:=by unfold Lx at *; omega
 exact Q1 (yk ((nV e h).2 ⟨r3,a,b⟩)) (by omega)
 rcases vn x w with c|c
 exact .inr ((nV hx a).2 ⟨h0,c,b⟩)
 exact .inl ((nV (Ne.symm hw) b).2 ⟨r5,c,a⟩).swap
def NZ(a b c:I2):dt (ca a) (ca b) (ca c)=((di a b c:Int):Rat):=by
 unfold dt ca di;simp only[Rat.intCast_sub,RZ,SJ]
def kA{x u w:I2}(hx:x≠u)(hw:u≠w)(h:nF x u u w≠3){t s:Rat}(t0:0<t)(s0:0<s):Sep (ca x) (ca u) (cv (ca u) (ca w) t) (cv (ca u) (ca w) s):=by
 refine zy ?_ t0 s0
 by_cases h0:ti x u w=0
 right
 rw[NZ,fa];refine ES hx hw h0 fun hd=>h ?_;have:∃y z,jF x u u w y/\jF x u u w z/\y≠z:=by
  rcases CR h0 hd hx hw with g|g
  exact⟨x,u,⟨.inl rfl,sW _ _,g⟩,⟨.inr (.inl rfl),pg _ _,sW _ _⟩,hx⟩
  exact⟨u,w,⟨.inr (.inl rfl),pg _ _,sW _ _⟩,⟨.inr (.inr (.inr rfl)),g,pg _ _⟩,hw⟩
 unfold nF;rw[QH this]
 left
 rw[lO];exact fun e=>h0 (by have:=Rat.intCast_inj (a:=ti x u w) (b:=0); simpa using e)
def pf(a b:P2)(t:Rat):cv a b t=cv b a (1-t):=by unfold cv; exact Rz (by dsimp only; grind) (by dsimp only; grind)
def uj(a b c d:I2):nF a b d c=nF a b c d:=by
 rw[qT (a:=d) (b:=c) (c:=a) (d:=b),rD,qT]
def Ey{a b c d:I2}(hab:a≠b)(hcd:c≠d)(h:nF a b c d=0\/nF a b c d=1/\(a=c\/a=d\/b=c\/b=d)){t s:Rat}(t0:0<t)(t1:t<1)(s0:0<s)(s1:s<1) :
  Sep (ca a) (ca b) (cv (ca c) (ca d) t) (cv (ca c) (ca d) s):=by
 rcases h with h|⟨h,e|e|e|e⟩
 have m:=zL.1 h;exact By (oR hab hcd m.1 m.2) (by grind) (by grind) (by grind) (by grind)
 subst e;exact(kA (Ne.symm hab) hcd (by rw[rD,h]; decide) t0 s0).ab
 subst e;rw[pf _ _ t,pf _ _ s];exact(kA (Ne.symm hab) (Ne.symm hcd) (by rw[rD,uj,h]; decide) (by grind) (by grind)).ab
 subst e;exact kA hab hcd (by rw[h]; decide) t0 s0
 subst e;rw[pf _ _ t,pf _ _ s];exact kA hab (Ne.symm hcd) (by rw[uj,h]; decide) (by grind) (by grind)
def LS{a b p:P2}{t:Rat}(h:Sep a b p p)(e:cv a b t=p)(t0:0<=t)(t1:t<=1):False:=by
 obtain⟨α,β,γ,h1,h2,h3,_⟩:=h;have:af α β γ p=(1-t)*af α β γ a+t*af α β γ b:=by rw[<-e]; unfold af cv; grind
 by_cases g:t=0
 subst g; grind
 have:=bh (show 0<t by grind) h2
 have:=bO (show 0<=1-t by grind) (show 0<=af α β γ a by grind)
 grind
structure Fce where
 o:TO I2
 hs:TO (TO I2)
def Fce.es(f:Fce):TO Eg:=(f.o::f.hs).flatMap iq
def Md(e:Eg):P2:=cv (ca e.1) (ca e.2) (1/2)
def sI(e:Eg):I2:=(e.1.1+e.2.1,e.1.2+e.2.2)
def oJ(r:TO I2)(e:Eg):Prop:=∀g∈iq r,¬cz (cj 2 g.1) (cj 2 g.2) (sI e)
def wM(r:TO I2)(e:Eg):Int:=wr (iq r) (Md e)
def KH(f:Fce)(e:Eg):Prop:=(oJ f.o e/\wM f.o e≠0)/\∀h∈f.hs,oJ h e/\wM h e=0
structure CxOk(fs:TO Fce):Prop where
 ro:∀f∈fs,VR f.o/\0<kU f.o
 rh:∀f∈fs,∀h∈f.hs,VR h/\kU h<0
 nd:(fs.flatMap Fce.es).Nodup
 xK:∀e∈fs.flatMap Fce.es,∀g∈fs.flatMap Fce.es,g≠e->g≠(e.2,e.1)->nF g.1 g.2 e.1 e.2=0\/nF g.1 g.2 e.1 e.2=1/\(g.1=e.1\/g.1=e.2\/g.2=e.1\/g.2=e.2)
 hole:∀f∈fs,∀k (hk:k<f.hs.length),∀e∈iq f.hs[k],(oJ f.o e/\wM f.o e≠0)/\∀j (hj:j<f.hs.length),j≠k->oJ f.hs[j] e/\wM f.hs[j] e=0
 over:∀i j (hi:i<fs.length) (hj:j<fs.length),i≠j->∀e∈fs[i].es,¬KH fs[j] e
def Fl{r:TO I2}(h:VR r){e:Eg}(he:e∈iq r):e.1≠e.2:=by
 obtain⟨i,_,rfl⟩:=Rj.1 he;exact h.still i
def Ip{r:TO I2}(h:VR r){p q:P2}(hs:∀e∈iq r,Sep (ca e.1) (ca e.2) p q):wr (iq r) p=wr (iq r) q:=by
 rw[wu,wu];exact vY h.simple.cl fun i hi=>hs _ (Rj.2 ⟨i,RB.2 hi,rfl⟩)
def HH{a b:I2}{e:Eg}(hab:a≠b)(h:Sep (ca a) (ca b) (Md e) (Md e)):¬cz (cj 2 a) (cj 2 b) (sI e):=by
 intro hb;obtain⟨α,β,γ,h1,h2,h3,_⟩:=h;have k:∀a:I2,af α β (2*γ) (ca (cj 2 a))=2*af α β γ (ca a):=fun a=>by
  unfold af ca cj;simp only[RZ];have:((2:Int):Rat)=2:=rfl;rw[this]; grind
 have hne:cj 2 a≠cj 2 b:=fun e=>hab ((BX (s:=2) (by decide)).inj e)
 have:=wZ hne hb (α:=α) (β:=β) (γ:=2*γ) (by rw[k]; grind) (by rw[k]; grind)
 have e2:af α β (2*γ) (ca (sI e))=2*af α β γ (Md e):=by
  unfold af ca sI Md cv ca;simp only[SJ]
  grind
 grind
section
variable{fs:TO Fce}
def lQ{f:Fce}{r:TO I2}(hr:r=f.o\/r∈f.hs){e:Eg}(he:e∈iq r):e∈f.es:=by
 unfold Fce.es;refine R0.2 ⟨r,?_,he⟩;rcases hr with rfl|hr
 exact Q7
 exact QQ _ hr
def Kv{f:Fce}{e:Eg}(he:e∈f.es):∃r,(r=f.o\/r∈f.hs)/\e∈iq r:=by
 obtain⟨r,h1,h2⟩:=R0.1 he;exact⟨r,QY.1 h1,h2⟩
def CxOk.vr(h:CxOk fs){f:Fce}(hf:f∈fs){r:TO I2}(hr:r=f.o\/r∈f.hs):VR r:=by
 rcases hr with rfl|hr
 exact(h.ro f hf).1
 exact(h.rh f hf r hr).1
def CxOk.ne(h:CxOk fs){f:Fce}(hf:f∈fs){e:Eg}(he:e∈f.es):e.1≠e.2:=by
 obtain⟨r,h1,h2⟩:=Kv he;exact Fl (h.vr hf h1) h2
def pt{f:Fce}(hf:f∈fs){e:Eg}(he:e∈f.es):e∈fs.flatMap Fce.es:=R0.2 ⟨f,hf,he⟩
def CxOk.ne'(h:CxOk fs){e:Eg}(he:e∈fs.flatMap Fce.es):e.1≠e.2:=by
 obtain⟨f,h1,h2⟩:=R0.1 he;exact h.ne h1 h2
def CxOk.sep(h:CxOk fs){e g:Eg}(he:e∈fs.flatMap Fce.es)(hg:g∈fs.flatMap Fce.es)(h1:g≠e)(h2:g≠(e.2,e.1)){t s:Rat}(t0:0<t)(t1:t<1)(s0:0<s)(s1:s<1) :
  Sep (ca g.1) (ca g.2) (cv (ca e.1) (ca e.2) t) (cv (ca e.1) (ca e.2) s) :=
 Ey (h.ne' hg) (h.ne' he) (h.xK e he g hg h1 h2) t0 t1 s0 s1
def CxOk.My(h:CxOk fs){e g:Eg}(he:e∈fs.flatMap Fce.es)(hg:g∈fs.flatMap Fce.es){y:Rat}(e1:(ca e.1).2≠y)(e2:(ca e.2).2≠y)(g1:(ca g.1).2≠y)(g2:(ca g.2).2≠y)
  (de0:de e y≠0) (dg0:de g y≠0) (hx:xc e y=xc g y):g=e\/g=(e.2,e.1):=by
 refine QI fun hc=>?_;obtain⟨t,t0,t1,ht⟩:=(uh e1 e2).2 de0;obtain⟨s,s0,s1,hs⟩:=(uh g1 g2).2 dg0;have:=h.sep he hg (fun k=>hc (.inl k)) (fun k=>hc (.inr k)) t0 t1 t0 t1;rw[ht] at this;exact LS this (by rw[hs,hx]) (by grind) (by grind)
def CxOk.Cj{f:Fce}{y:Rat}(hg:Bs f.es y){r:TO I2}(hr:r=f.o\/r∈f.hs):Bs (iq r) y:=fun e he=>hg e (lQ hr he)
def BD{f:Fce}{p:P2}(hg:KL f.es p){r:TO I2}(hr:r=f.o\/r∈f.hs):KL (iq r) p:=fun e he=>hg e (lQ hr he)
def CxOk.zB(h:CxOk fs){f:Fce}(hf:f∈fs){p:P2}(hg:Bs f.es p.2)(ho:KL f.es p):(wr (iq f.o) p=0\/wr (iq f.o) p=1)/\∀r∈f.hs,wr (iq r) p=0\/wr (iq r) p = -1:=by
 constructor
 obtain⟨v,a⟩:=h.ro f hf;obtain⟨s,_,h1,_,_,h2⟩:=zr v;have:=h2 p (CxOk.Cj hg (.inl rfl)) (BD ho (.inl rfl));rw[h1 a] at this; exact this
 intro r hr;obtain⟨v,a⟩:=h.rh f hf r hr;obtain⟨s,_,_,h1,_,h2⟩:=zr v;have:=h2 p (CxOk.Cj hg (.inr hr)) (BD ho (.inr hr));rw[h1 a] at this; exact this
def J7(f:Fce)(p:P2):wr f.es p=wr (iq f.o) p+fY (fun r=>wr (iq r) p) f.hs:=by
 unfold Fce.es;rw[Jx,fY]
def Ir{l:TO (TO I2)}{f:TO I2->Int}(h:∀r∈l,f r=0\/f r = -1):fY f l<=0/\(fY f l=0->∀r∈l,f r=0):=by
 have h1:0<=fY (fun r=>-f r) l:=A0 fun r hr=>by have:=h r hr; omega
 rw[BU] at h1;refine⟨by omega,fun h0 r hr=>?_⟩
 have:=Gx (f:=fun r=>-f r) (l:=l) (fun r hr=>by have:=h r hr; omega) hr
 rw[BU] at this;have:=h r hr;omega
def CxOk.Ak(h:CxOk fs){f:Fce}(hf:f∈fs){p:P2}(hg:Bs f.es p.2)(ho:KL f.es p):wr f.es p<=1/\(wr f.es p=1->wr (iq f.o) p=1/\∀r∈f.hs,wr (iq r) p=0):=by
 obtain⟨h1,h2⟩:=h.zB hf hg ho;have:=Ir h2;rw[J7];exact⟨by omega,fun e=>⟨by omega,this.2 (by omega)⟩⟩
def CxOk.along(h:CxOk fs){f:Fce}(hf:f∈fs){r:TO I2}(hr:r=f.o\/r∈f.hs){e:Eg}(he:e∈fs.flatMap Fce.es)(h1:e∉iq r)(h2:(e.2,e.1)∉iq r){t:Rat}(t0:0<t)(t1:t<1) :
  wr (iq r) (cv (ca e.1) (ca e.2) t)=wM r e/\oJ r e:=by
 have hh:(0:Rat)<1/2/\(1:Rat)/2<1:=by constructor<;>grind
 constructor
 exact Ip (h.vr hf hr) fun g hg=>h.sep he (pt hf (lQ hr hg)) (fun k=>h1 (k▸hg)) (fun k=>h2 (k▸hg)) t0 t1 hh.1 hh.2
 intro g hg;exact HH (Fl (h.vr hf hr) hg) (h.sep he (pt hf (lQ hr hg)) (fun k=>h1 (k▸hg)) (fun k=>h2 (k▸hg)) hh.1 hh.2 hh.1 hh.2)
def CxOk.only(h:CxOk fs){i j:Nat}(hi:i<fs.length)(hj:j<fs.length)(hij:i≠j){y X:Rat}(gi:Bs fs[i].es y)(gj:Bs fs[j].es y){e:Eg}(he:e∈fs[i].es)(hd:de e y≠0)(hx:xc e y=X)
  (hn:∀g∈fs[j].es,de g y≠0->xc g y≠X):wr fs[j].es (X,y)≠1:=by
 intro h1;have fj:fs[j]∈fs:=Q5 hj;have ea:=pt (Q5 hi) he;obtain⟨t,t0,t1,ht⟩:=(uh (gi e he).1 (gi e he).2).2 hd;have n1:∀r,(r=fs[j].o\/r∈fs[j].hs)->e∉iq r:=fun r hr k=>hn e (lQ hr k) hd hx;have n2:∀r,(r=fs[j].o\/r∈fs[j].hs)->(e.2,e.1)∉iq r:=fun r hr k=>by
  refine hn _ (lQ hr k) (by rw[Ai]; omega) ?_
  have hk:=gj _ (lQ hr k);obtain⟨s,s0,s1,hs⟩:=(uh hk.1 hk.2).2 (by rw[Ai]; omega)
  dsimp only at hs hk
  have a1:cv (ca e.1) (ca e.2) (1-s)=(xc (e.2,e.1) y,y):=by rw[<-pf]; exact hs
  rw[hx] at ht;have b1:=Rf Prod.snd a1;have b2:=Rf Prod.snd ht;have c1:=Rf Prod.fst a1;have c2:=Rf Prod.fst ht;unfold cv at b1 b2 c1 c2
  dsimp only at b1 b2 c1 c2
  have hz:(1-s-t)*((ca e.2).2-(ca e.1).2)=0:=by grind
  have hy:(ca e.2).2-(ca e.1).2≠0:=by
   intro k;exact(gi e he).1 (by grind)
  rcases Rat.mul_eq_zero.1 hz with k|k
  grind
  exact Q1 k hy
 have ho:KL fs[j].es (X,y):=fun g hg hd' k=>hn g hg hd' k.symm;obtain⟨v1,v2⟩:=(h.Ak fj (p:=(X,y)) gj ho).2 h1;rw[hx] at ht;refine h.over i j hi hj hij e he ⟨?_,fun r hr=>?_⟩
 have:=h.along fj (.inl rfl) ea (n1 _ (.inl rfl)) (n2 _ (.inl rfl)) t0 t1;rw[ht] at this;exact⟨this.2,by rw[<-this.1,v1]; decide⟩
 have:=h.along fj (.inr hr) ea (n1 _ (.inr hr)) (n2 _ (.inr hr)) t0 t1;rw[ht] at this;exact⟨this.2,by rw[<-this.1]; exact v2 r hr⟩
def rV{α β:Type}{g:α->TO β}:∀{l:TO α} {i j:Nat} (hi:i<l.length) (hj:j<l.length),(l.flatMap g).Nodup->i≠j->∀x,x∈g l[i]->x∈g l[j]->False
 | [],_,_,hi,_,_,_,_,_,_=>by cases hi
 | a::l,i,j,hi,hj,hn,hij,x,h1,h2=>by
  rw[Sz] at hn;obtain⟨n1,n2,n3⟩:=List.nodup_append.1 hn;cases i with
  | zero=>cases j with
   | zero=>exact hij rfl
   | succ j=>exact n3 x h1 x (R0.2 ⟨l[j]'(by simpa using hj),Q5 _,h2⟩) rfl
  | succ i=>cases j with
   | zero=>exact n3 x h2 x (R0.2 ⟨l[i]'(by simpa using hi),Q5 _,h1⟩) rfl
   | succ j=>exact rV (by simpa using hi) (by simpa using hj) n2 (by omega) x h1 h2
def sX{α β:Type}{g:α->TO β}:∀{l:TO α} {a:α},a∈l->(l.flatMap g).Nodup->(g a).Nodup
 | [],_,h,_=>by cases h
 | b::l,a,h,hn=>by
  rw[Sz] at hn;obtain⟨n1,n2,_⟩:=List.nodup_append.1 hn;rcases QY.1 h with rfl|h
  exact n1
  exact sX h n2
def CxOk.two(h:CxOk fs){i j:Nat}(hi:i<fs.length)(hj:j<fs.length)(hij:i≠j){p:P2}(gi:Bs fs[i].es p.2)(gj:Bs fs[j].es p.2)(vi:wr fs[i].es p=1)(vj:wr fs[j].es p=1):False:=by
 have fi:fs[i]∈fs:=Q5 hi;have fj:fs[j]∈fs:=Q5 hj;have hE:∃e,e∈fs[i].es++fs[j].es/\(de e p.2≠0/\p.1<xc e p.2):=by
  obtain⟨e,h1,h2⟩:=AR gi (by omega)
  exact⟨e,Rg _ h1,h2⟩
 obtain⟨e0,m0,⟨d0,p0⟩,hmin⟩:=td (X:=fun e=>xc e p.2) hE;generalize hX:xc e0 p.2=X at *;have w1:=xq gi p0 fun e he hd hx=>hmin e (Rg _ he) ⟨hd,hx⟩;have w2:=xq gj p0 fun e he hd hx=>hmin e (Rs _ he) ⟨hd,hx⟩;obtain⟨x,hx,hr⟩:=Gp (fs[i].es++fs[j].es) X p.2;obtain⟨r1,o1⟩:=xm gi hx fun e he=>hr e (Rg _ he);obtain⟨r2,o2⟩:=xm gj hx fun e he=>hr e (Rs _ he);have l1:=(h.Ak fi (p:=(x,p.2)) gi o1).1;have l2:=(h.Ak fj (p:=(x,p.2)) gj o2).1;have zero:∀{E:TO Eg},(¬∃e,e∈E/\de e p.2≠0/\xc e p.2=X)->fY (fun e=>if xc e p.2=X then de e p.2 else 0) E=0:=fun hn=>mw fun e he=>by
  by_cases hd:de e p.2=0
  rw[hd]; simp
  exact QF fun k=>hn ⟨e,he,hd,k⟩
 by_cases c1:∃e,e∈fs[i].es/\de e p.2≠0/\xc e p.2=X
 obtain⟨e,he,hd,hx1⟩:=c1
 by_cases c2:∃g,g∈fs[j].es/\de g p.2≠0/\xc g p.2=X
 obtain⟨g,hg,hd',hx2⟩:=c2;have ne:∀e∈fs[i].es,∀g∈fs[j].es,g≠e:=fun e he g hg k=>rV hi hj h.nd hij e he (k▸hg);have rv:∀e∈fs[i].es,∀g∈fs[j].es,de e p.2≠0->de g p.2≠0->xc e p.2=X->xc g p.2=X->g=(e.2,e.1):=fun e he g hg h1 h2 h3 h4 =>
  (h.My (pt fi he) (pt fj hg) (gi e he).1 (gi e he).2 (gj g hg).1 (gj g hg).2 h1 h2 (by rw[h3,h4])).resolve_left (ne e he g hg)
 have k1:fY (fun e=>if xc e p.2=X then de e p.2 else 0) fs[i].es=de e p.2:=by
  rw[vv (sX fi h.nd) he fun b hb hne=>?_]
  exact QH hx1
  by_cases hb0:de b p.2=0
  rw[hb0]; simp
  refine QF fun k=>hne ?_;have a1:=rv e he g hg hd hd' hx1 hx2;have a2:=rv b hb g hg hb0 hd' k hx2;rw[a1] at a2;exact Rz (Rf Prod.snd a2).symm (Rf Prod.fst a2).symm
 have k2:fY (fun e=>if xc e p.2=X then de e p.2 else 0) fs[j].es=de g p.2:=by
  rw[vv (sX fj h.nd) hg fun b hb hne=>?_]
  exact QH hx2
  by_cases hb0:de b p.2=0
  rw[hb0]; simp
  refine QF fun k=>hne ?_;rw[rv e he g hg hd hd' hx1 hx2,rv e he b hb hd hb0 hx1 k]
 have k3:de g p.2 = -de e p.2:=by rw[rv e he g hg hd hd' hx1 hx2,Ai]
 rw[k1] at w1;rw[k2,k3] at w2;have:=Ld e p.2;omega
 rw[zero c2] at w2;exact h.only hi hj hij gi gj he hd hx1 (fun g hg hd k=>c2 ⟨g,hg,hd,k⟩) (by omega)
 by_cases c2:∃g,g∈fs[j].es/\de g p.2≠0/\xc g p.2=X
 obtain⟨g,hg,hd',hx2⟩:=c2;rw[zero c1] at w1;exact h.only hj hi (Ne.symm hij) gj gi hg hd' hx2 (fun g hg hd k=>c1 ⟨g,hg,hd,k⟩) (by omega)
 rcases Q3.1 m0 with k|k
 exact c1 ⟨e0,k,d0,hX⟩
 exact c2 ⟨e0,k,d0,hX⟩
def raise(E:TO Eg)(p:I2)(h:∀e∈E,¬cz e.1 e.2 p):∃q:P2,Bs E q.2/\∀e∈E,we (ca e.1) (ca e.2) q=wi e.1 e.2 p:=by
 have hL:Lg fun N=>∀i,i<E.length->∀e,E[i]? = some e->wi (cj N e.1) (cj N e.2) (ph (0,1) (cj N p))=wi e.1 e.2 p:=Lg.all (P:=fun i N=>∀e,E[i]? = some e->wi (cj N e.1) (cj N e.2) (ph (0,1) (cj N p))=wi e.1 e.2 p) fun i hi=>by
  have:=yv (h _ (Q5 hi)) (δ:=(0,1)) (by decide)
  exact this.imp fun N g e he=>by rw[QG hi] at he; cases he; exact g.1
 obtain⟨N,hN,h2,hP⟩:=((Lg.ge 2).and hL).get;have hN':(0:Rat)<(N:Rat):=fa.2 hN;have ht:(N:Rat)*(N:Rat)⁻¹=1:=Rat.mul_inv_cancel _ (by grind)
 generalize(N:Rat)⁻¹=t at ht;refine⟨(((ph (0,1) (cj N p)).1:Rat)*t,((ph (0,1) (cj N p)).2:Rat)*t),fun e he=>?_,fun e he=>?_⟩
 have key:∀a:I2,(ca a).2≠((ph (0,1) (cj N p)).2:Rat)*t:=fun a k=>by
  have:((a.2*N:Int):Rat)=((ph (0,1) (cj N p)).2:Rat):=by
   unfold ca at k
   dsimp only at k
   rw[RZ,k]
   grind
  have:=Rat.intCast_inj.1 this;unfold ph cj at this
  dsimp only at this
  have:(a.2-p.2)*N=1:=by grind
  have h3:N∣1:=⟨a.2-p.2,by rw[Int.mul_comm]; omega⟩
  have:=Int.le_of_dvd (by decide) h3
  omega
 exact⟨key _,key _⟩
 rw[vQ hN ht];obtain⟨i,hi,rfl⟩:=Ri.1 he;exact hP i hi _ (QG hi)
def FZ(r:TO I2)(p:I2):dh r p=fY (fun e=>wi e.1 e.2 p) (iq r):=by
 unfold dh iq;rw[s5,vk]
def Fce.has(f:Fce)(p:I2):Prop:=(∀e∈f.es,¬cz e.1 e.2 p)/\dh f.o p≠0/\∀h∈f.hs,dh h p=0
def CxOk.LG(h:CxOk fs){i j:Nat}(hi:i<fs.length)(hj:j<fs.length)(hij:i≠j){p:I2}(h1:fs[i].has p)(h2:fs[j].has p):False:=by
 obtain⟨q,g,hq⟩:=raise (fs[i].es++fs[j].es) p fun e he=>by
  rcases Q3.1 he with k|k
  exact h1.1 e k
  exact h2.1 e k
 have val:∀f∈fs,(∀e∈f.es,we (ca e.1) (ca e.2) q=wi e.1 e.2 p)->f.has p->wr f.es q=1:=fun f hf he hh=>by
  have e1:∀r,(r=f.o\/r∈f.hs)->wr (iq r) q=dh r p:=fun r hr=>by
   rw[FZ];exact jN fun e hm=>he e (lQ hr hm)
  rw[J7,e1 _ (.inl rfl),mw fun r hr=>by rw[e1 r (.inr hr)]; exact hh.2.2 r hr]
  obtain⟨v,a⟩:=h.ro f hf;have:=(v.Mi a).zB v p;have:=hh.2.1;omega
 exact h.two hi hj hij (fun e he=>g e (Rg _ he)) (fun e he=>g e (Rs _ he))
  (val _ (Q5 hi) (fun e he=>hq e (Rg _ he)) h1) (val _ (Q5 hj) (fun e he=>hq e (Rs _ he)) h2)
end
section
variable{K:Int}
def w0{x y z T:Int}(h:x<=z↔y<=z):(if x<=z/\z<y/\0<T then(1:Int) else if y<=z/\z<x/\T<0 then -1 else 0)=0:=by
 rw[S8,S8]
end
def Mt(g e:Eg):Prop:=nF g.1 g.2 e.1 e.2=0\/nF g.1 g.2 e.1 e.2=1/\(g.1=e.1\/g.1=e.2\/g.2=e.1\/g.2=e.2)
def Mt.symm{g e:Eg}(h:Mt g e):Mt e g:=by
 unfold Mt at *;rw[qT];rcases h with h|⟨h,k⟩
 exact .inl h
 exact .inr ⟨h,by rcases k with k|k|k|k<;>simp[k]⟩
def Of{r:TO I2}(h:r≠[])(e:Eg):wM r e=dh (r.map (cj 2)) (sI e):=by
 have hp:Md e=(((sI e).1:Rat)*(1/2),((sI e).2:Rat)*(1/2)):=by
  unfold Md cv sI ca;simp only[SJ];exact Rz (by dsimp only; grind) (by dsimp only; grind)
 unfold wM dh;rw[wu,Q0];refine aX fun i _=>?_;rw[hp,cB _ h,cB _ h];exact vQ (N:=2) (by decide) (by have:((2:Int):Rat)=2:=rfl; rw[this]; grind) _ _ _
def Qi(φ:I2->I2)(e:Eg):Eg:=(φ e.1,φ e.2)
structure Mp(φ:I2->I2):Prop where
 inj:∀{a b},φ a=φ b->a=b
 how_eq:∀a b c d,nF (φ a) (φ b) (φ c) (φ d)=nF a b c d
 vr:∀{r},VR r->VR (r.map φ)
 ar:∃c:Int,0<c/\∀r,r≠[]->kU (r.map φ)=c*kU r
 btw:∀{a b c},cz (φ a) (φ b) (φ c)↔cz a b c
 g2:∀a,φ (cj 2 a)=cj 2 (φ a)
 uy:∀e:Eg,φ (sI e)=sI (Qi φ e)
 wnd:∀{r},VR r->∀{p},(∀i,i<r.length->¬cz (nx r i) (nx r (i+1)) p)->dh (r.map φ) (φ p)=dh r p
section
variable{φ:I2->I2}
end
structure Pr(o h:TO I2):Prop where
 vo:VR o
 ao:0<kU o
 vh:VR h
 ah:kU h<0
 mt:∀e∈iq h,∀g∈iq o,Mt g e
 inn:∀e∈iq h,oJ o e/\wM o e≠0
def Iu{r:TO I2}{i:Nat}(hi:i<r.length):(nx r i,nx r (i+1))∈iq r:=Rj.2 ⟨i,RB.2 hi,rfl⟩
section
variable{o h:TO I2}
end
structure Qo(o:TO I2)(hs:TO (TO I2)):Prop where
 vo:VR o
 ao:0<kU o
 pr:∀h∈hs,Pr o h
 mt:∀k j (hk:k<hs.length) (hj:j<hs.length),j≠k->∀e∈iq hs[k],∀g∈iq hs[j],Mt g e
 dis:∀k j (hk:k<hs.length) (hj:j<hs.length),j≠k->∀e∈iq hs[k],oJ hs[j] e/\wM hs[j] e=0
section
variable{o:TO I2}{hs:TO (TO I2)}
end
end Jd
end
section
namespace Go.Proofs.Ytmndpgfbkicndaa
open Go Go.Ab Go.Ab.W Go.Ab.B Jd
def LV(n:Nat)(pts:TO I2)(F:TO Fc)(hn:99999<n):∃r,MI n pts F=some r/\(r.1<=0->Fcs pts F/\JQ pts F=r):=by
 have no:∀(k v:Int),0<k->((k,v).1<=0->Fcs pts F/\JQ pts F=(k,v)):=fun k v h e=>by dsimp only at e; omega
 unfold MI
 by_cases g1:(pts.length:Int)<3
 simp only[aF g1,ai,iz]; exact⟨_,rfl,no _ _ (by decide)⟩
 by_cases g2:120<(pts.length:Int)
 simp only[aE g1,aF g2,ai,iz]; exact⟨_,rfl,no _ _ (by decide)⟩
 by_cases g3:(F.length:Int)<1
 simp only[aE g1,aE g2,aF g3,ai,iz]; exact⟨_,rfl,no _ _ (by decide)⟩
 by_cases g4:64<(F.length:Int)
 simp only[aE g1,aE g2,aE g3,QM g4,ai,iz]; exact⟨_,rfl,no _ _ (by decide)⟩
 simp only[aE g1,aE g2,aE g3,QO g4,ai,gw];rw[Gz n (by omega) (by omega)]
 cases hf:bL (lh pts) (.inr ()) pts.length 0 with
 | inl v =>
  have:=BM v hf;simp only[ai,aF this]; exact⟨_,rfl,no _ _ (by decide)⟩
 | inr u =>
 simp only[ai,aE (show ¬(0:Int)<=-1 by decide)]
 rw[EB n (by omega) (by omega)]
 cases ht:bL (oK pts) (.inr ()) pts.length 0 with
 | inl v=>simp only[ai]; exact⟨_,rfl,no _ _ (by decide)⟩
 | inr u =>
 simp only[ai];have hb:=HO (by omega) hf
 rw[FG n (by omega) (by omega)]
 cases h4:bL (iB (okF pts.length) F) (.inr ()) F.length 0 with
 | inl v =>
  have:=pJ h4;simp only[ai,aF this]; exact⟨_,rfl,no _ _ (by decide)⟩
 | inr u =>
 have ho:OY pts F:=nO h4;simp only[ai,aE (show ¬(0:Int)<=-1 by decide)]
 rw[F4 n hb ho (by omega) (by omega)]
 cases h5:bL (iB (NL pts) F) (.inr ()) F.length 0 with
 | inl v =>
  have:=pJ h5;simp only[ai,aF this]; exact⟨_,rfl,no _ _ (by decide)⟩
 | inr u =>
 have hva:=nO h5;have ha:=fun f hf=>JT (hva f hf);simp only[ai,aE (show ¬(0:Int)<=-1 by decide)]
 rw[Gf n hb ho ha (by omega) (by omega)]
 cases h6:bL (iB (ME pts) F) (.inr ()) F.length 0 with
 | inl v =>
  have:=pJ h6;simp only[ai,aF this]; exact⟨_,rfl,no _ _ (by decide)⟩
 | inr u =>
 have htu:=nO h6;have hc:Fcs pts F:=⟨⟨by omega,by omega⟩,⟨by omega,by omega⟩,hb,HF ht,ho,hva,htu⟩
 simp only[ai,aE (show ¬(0:Int)<=-1 by decide)]
 rw[Ml n hc hn];exact⟨JQ pts F,rfl,fun _=>⟨hc,rfl⟩⟩
structure NoF(pts:TO I2)(F:TO Fc):Prop where
 vf:Fcs pts F
 ed:(JQ pts F).1<=0
def Ju(n:Nat)(pts:TO I2)(F:TO Fc)(hn:99999<n):∃r,Dl n pts F=some r/\(r=0->NoF pts F):=by
 obtain⟨r,h1,h3⟩:=LV n pts F hn;obtain⟨k,v⟩:=r;unfold Dl;rw[h1,ai]
 by_cases c:0<k
 exact⟨150,by dsimp only; rw[aF c],fun h=>by omega⟩
 refine⟨0,by dsimp only; rw[aE c],fun _=>?_⟩
 obtain⟨g1,g2⟩:=h3 (by dsimp only; omega)
 exact⟨g1,by rw[g2]; dsimp only; omega⟩
section
variable{pts:TO I2}{F:TO Fc}(n:Nat)
end
end Go.Proofs.Ytmndpgfbkicndaa
end
