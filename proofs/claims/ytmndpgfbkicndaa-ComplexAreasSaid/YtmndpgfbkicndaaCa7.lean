/- A part of the proof. -/
import Derived.Test.YtmndpgfbkicndaaCa6
set_option linter.all false
section
namespace Go.Proofs.Ytmndpgfbkicndaa
section
open Go Go.Ab Go.Ab.W Go.Ab.B Jd
def pY(x:Int):Prop:=-9223372036854775808<=x/\x<9223372036854775808
def Fa(p:I2):Prop:=p.1 < -1000000\/1000000<p.1\/p.2 < -1000000\/1000000<p.2
instance(p:I2):Decidable (Fa p):=by unfold Fa; infer_instance
instance(a b p:I2):Decidable (cC a b p):=by unfold cC; infer_instance
def ji(a b:Int):ma a b=max a b:=by unfold ma; split<;>omega
def iE(a b:Int):mi a b=min a b:=by unfold mi; split<;>omega
def KZ{x:Int}(h:pY x):UE (0-x)=if x = -9223372036854775808 then x else -x:=by
 unfold pY at h
 split
 rename_i e; subst e; decide
 rw[aF (by omega) (by omega)]; omega
def sN(n:Nat){x y:Int}(hx:pY x)(hy:pY y):KF n x y=some (decide (Fa (x,y))):=by
 unfold KF;rw[KZ hx,KZ hy,ai,ru,<-Bool.decide_or]
 congr 1
 rw[decide_eq_decide];unfold pY at hx hy;unfold Fa
 dsimp only
 rw[ji,ji,ji,iE]
 split<;>split<;>omega
def sg(z:Int):Int:=if z<0 then -1 else if 0<z then 1 else 0
def A0(n:Nat)(x y:Int):NX n x y=some (sg (x-y)):=by
 unfold NX PR sg;simp only[decide_true,S0,ai,jl]
 by_cases h:x<y
 rw[aH h,R7 (show x-y<0 by omega)]
 rw[aD h,R5 (show ¬x-y<0 by omega)]
 by_cases g:y<x
 rw[aH g,R7 (show 0<x-y by omega)]
 rw[aD g,R5 (show ¬0<x-y by omega)]
def Nr(p:I2):Prop:=-1000000<=p.1/\p.1<=1000000/\-1000000<=p.2/\p.2<=1000000
def vN{p:I2}:¬Fa p↔Nr p:=by unfold Fa Nr; omega
def qA(n:Nat){a b c:I2}(ha:Nr a)(hb:Nr b)(hc:Nr c):IZ n a.1 a.2 b.1 b.2 c.1 c.2=some (sg (ti a b c)):=by
 unfold Nr at ha hb hc;have m1:=gW (B:=2000000) (C:=2000000) (u:=b.1-a.1) (v:=c.2-a.2) (by decide) (by omega) (by omega) (by omega) (by omega)
 have m2:=gW (B:=2000000) (C:=2000000) (u:=b.2-a.2) (v:=c.1-a.1) (by decide) (by omega) (by omega) (by omega) (by omega)
 unfold IZ;rw[aF (x:=b.1-a.1) (by omega) (by omega),aF (x:=c.2-a.2) (by omega) (by omega),aF (x:=b.2-a.2) (by omega) (by omega),aF (x:=c.1-a.1) (by omega) (by omega),
  aF (by omega) (by omega),aF (by omega) (by omega),ai,ai,A0,ai]
 rfl
def pD{z:Int}:sg z=0↔z=0:=by unfold sg; split<;>(try split)<;>omega
def tL{z:Int}:sg z<0↔z<0:=by unfold sg; split<;>(try split)<;>omega
def js{z:Int}:0<sg z↔0<z:=by unfold sg; split<;>(try split)<;>omega
def pz(z:Int):sg z = -1\/sg z=0\/sg z=1:=by unfold sg; split<;>(try split)<;>simp
def NQ(n:Nat)(r s:Int)(hn:2<n):P4 n [r,s]=some (if r≠0 then r else s):=by
 obtain⟨n,rfl⟩:∃n',n=n'+3:=⟨n-3,by omega⟩
 have L0:qW (n+3) [r,s] 0=if r≠0 then some (.inr (.inl r)) else some (.inl 1):=by
  unfold qW;rw[aH (by simp),show cz 0 [r,s].length=true from rfl,bc]
  show ob (some r) _=_
  rw[ai]
  by_cases h:r=0
  rw[Sd h,S0,jl,R5 (by simpa using h)]; rfl
  rw[Sm h,SV,lN,R7 h]
 have L1:qW (n+3) [r,s] 1=if s≠0 then some (.inr (.inl s)) else some (.inl 2):=by
  unfold qW;rw[aH (by simp),show cz 1 [r,s].length=true from rfl,bc]
  show ob (some s) _=_
  rw[ai]
  by_cases h:s=0
  rw[Sd h,S0,jl,R5 (by simpa using h)]; rfl
  rw[Sm h,SV,lN,R7 h]
 have L2:qW (n+3) [r,s] 2=some (.inr (.inr ())):=by
  unfold qW;rw[aD (by simp)]
 unfold P4
 by_cases h:r=0
 rw[R5 (by simpa using h)] at L0 ⊢
 rw[fZ L0]
 by_cases g:s=0
 rw[R5 (by simpa using g)] at L1
 rw[fZ L1,fC L2,ai,g]
 rw[R7 g] at L1;rw[fC L1,ai]
 rw[R7 h] at L0 ⊢;rw[fC L0,ai]
def Qu(a b:I2):Int:=if sg (a.1-b.1)≠0 then sg (a.1-b.1) else sg (a.2-b.2)
def BB(n:Nat)(a b:I2)(hn:2<n):JH n a.1 a.2 b.1 b.2=some (Qu a b):=by
 unfold JH;rw[A0,ai,A0,ai,NQ n _ _ hn,ai]; rfl
def yq{a b:I2}:Qu a b<=0↔Lx a b:=by
 unfold Qu Lx;have h1:=pD (z:=a.1-b.1);have h2:=js (z:=a.1-b.1);have h3:=js (z:=a.2-b.2)
 split<;>omega
def HW(n:Nat)(e:Int){a b p:I2}(ha:Nr a)(hb:Nr b)(hp:Nr p)(hab:a≠b)(hn:2<n):N6 n e a.1 a.2 b.1 b.2 p.1 p.2=some (decide (cC a b p)):=by
 unfold N6;rw[qA n ha hb hp,ai]
 by_cases h0:ti a b p=0
 rw[Sd (pD.2 h0),S0,jl,BB n a b hn,ai];have key:∀{u v:I2},u≠v->Lx u v->ti u v p=0->(ob (JH n u.1 u.2 p.1 p.2) fun r28=>br (decide (r28<=0)) (ob (JH n p.1 p.2 v.1 v.2) fun r31=>some (decide (r31<=0))) (some false))=some (decide (cC u v p)):=fun{u v} huv hl ht=>by
  rw[BB n u p hn,ai,BB n p v hn,ai,gU,<-S9]
  congr 1
  rw[decide_eq_decide,oR huv hl,yq,yq];exact⟨fun h=>⟨ht,h⟩,fun h=>h.2⟩
 by_cases hl:0<Qu a b
 rw[aH hl,ai];have hl':Lx b a:=by
  have:¬Lx a b:=fun h=>by have:=yq.2 h; omega
  unfold Lx at this ⊢; omega
 have:=key hab.symm hl' (by rw[eD,h0]; rfl)
 dsimp only
 rw[this]
 congr 1
 rw[decide_eq_decide]; exact sW
 rw[aD hl,ai];exact key hab (yq.1 (by omega)) h0
 rw[Sm (fun h=>h0 (pD.1 h)),SV,lN,Sm fun h=>h0 h.1]
def tA{α β:Type}[DecidableEq α](k:α):∀(xs:VB (α×β)) (i:Nat),(cN k xs i=none/\k∉xs.map Prod.fst)\/∃j v,cN k xs i=some (i+j,v)/\(xs[j]?).map Prod.fst=some k
 | [],_=>.inl ⟨rfl,by simp⟩
 | e::es,i=>by
  unfold cN
  by_cases h:k=e.1
  rw[R7 h]; exact .inr ⟨0,e.2,rfl,by rw[h]; rfl⟩
  rw[R5 h];rcases tA k es (i+1) with⟨h1,h2⟩|⟨j,v,h1,h2⟩
  exact .inl ⟨h1,fun g=>by
   rw[Ts,Sr] at g;exact g.elim h h2⟩
  exact .inr ⟨j+1,v,by rw[h1,show i+1+j=i+(j+1) by omega],h2⟩
def qH{α β:Type}[DecidableEq α](xs:VB (α×β))(k:α)(v:β):(iW xs k v).map Prod.fst=if k∈xs.map Prod.fst then xs.map Prod.fst else xs.map Prod.fst++[k]:=by
 unfold iW;rcases tA k xs 0 with⟨h1,h2⟩|⟨j,w,h1,h2⟩
 rw[h1,R5 h2]; simp
 rw[h1,SE];have hj:j<xs.length:=by
  refine R8 fun hc=>?_;rw[Tc (by omega)] at h2; cases h2
 have e:(xs.map Prod.fst)[j]? = some k:=by rw[S5]; exact h2
 rw[R7 (SA e),List.map_set];refine Tg fun t=>?_;rw[List.getElem?_set]
 by_cases ht:j=t
 subst ht;rw[R7 rfl,R7 (by rw[Si]; exact hj),e]
 rw[R5 ht]
def yx(a b c d:I2)(l:VB (I2×Bool))(x:I2):VB (I2×Bool):=if cC a b x/\cC c d x then iW l x true else l
def AI{a b c d:I2}:∀(xs:VB I2) (l:VB (I2×Bool)),(l.map Prod.fst).Nodup->((xs.foldl (yx a b c d) l).map Prod.fst).Nodup/\∀q,q ∈(xs.foldl (yx a b c d) l).map Prod.fst↔q∈l.map Prod.fst\/(q∈xs/\cC a b q/\cC c d q)
 | [],l,hn=>⟨hn,fun q=>by simp⟩
 | x::xs,l,hn=>by
  rw[List.foldl_cons];have key:((yx a b c d l x).map Prod.fst).Nodup/\∀q,q ∈(yx a b c d l x).map Prod.fst↔q∈l.map Prod.fst\/(q=x/\cC a b q/\cC c d q):=by
   unfold yx
   by_cases h:cC a b x/\cC c d x
   rw[R7 h,qH]
   by_cases g:x∈l.map Prod.fst
   rw[R7 g];exact⟨hn,fun q=>⟨.inl,fun e=>e.elim id fun e=>e.1▸g⟩⟩
   rw[R5 g];refine⟨List.nodup_append.2 ⟨hn,by simp,fun u hu v hv=>?_⟩,fun q=>?_⟩
   rw[Se] at hv;intro e; rw[e,hv] at hu; exact g hu
   rw[St,Se];exact⟨fun e=>e.elim .inl fun e=>.inr ⟨e,e▸h⟩,fun e=>e.elim .inl fun e=>.inr e.1⟩
   rw[R5 h];exact⟨hn,fun q=>⟨.inl,fun e=>e.elim id fun⟨e,g⟩=>Sw (e▸g) h⟩⟩
  obtain⟨k1,k2⟩:=key;obtain⟨r1,r2⟩:=AI xs _ k1;refine⟨r1,fun q=>?_⟩;rw[r2,k2,Sr];constructor
  rintro((h|⟨rfl,h⟩) |⟨h,g⟩)
  exact .inl h
  exact .inr ⟨.inl rfl,h⟩
  exact .inr ⟨.inr h,g⟩
  rintro(h|⟨rfl|h,g⟩)
  exact .inl (.inl h)
  exact .inl (.inr ⟨rfl,g⟩)
  exact .inr ⟨h,g⟩
def yb(n:Nat)(e f:Int){a b c d x:I2}(ha:Nr a)(hb:Nr b)(hc:Nr c)(hd:Nr d)(hx:Nr x)(hab:a≠b)(hcd:c≠d)(hn:2<n)(l:VB (I2×Bool)){i:Nat}(hi:i<4)(he:[a,b,c,d][i]? = some x) :
  qP n a.1 a.2 b.1 b.2 c.1 c.2 d.1 d.2 e f (l,(i:Int))=some (.inl (yx a b c d l x,((i+1:Nat):Int))):=by
 unfold qP
 dsimp only
 rw[aH (by omega),aA hi,bc,SG]
 have:[(a.1,a.2),(b.1,b.2),(c.1,c.2),(d.1,d.2)][i]? = some (x.1,x.2):=he;rw[this,ai]
 dsimp only
 rw[HW n e ha hb hx hab hn,ai,HW n f hc hd hx hcd hn,ai,gU,ai,av (by omega)]
 unfold yx
 by_cases h:cC a b x/\cC c d x
 rw[Sd h.1,Sd h.2,R7 h]; rfl
 rw[R5 h,<-S9,Sm h]; rfl
def Ip(n:Nat)(e f:Int){a b c d:I2}(ha:Nr a)(hb:Nr b)(hc:Nr c)(hd:Nr d)(hab:a≠b)(hcd:c≠d)(hn:5<n):N5 n e a.1 a.2 b.1 b.2 f c.1 c.2 d.1 d.2=some (nj a b c d):=by
 classical
 unfold N5;rw[qA n ha hb hc,ai,qA n ha hb hd,ai,qA n hc hd ha,ai,qA n hc hd hb,ai];have L:bK (qP n a.1 a.2 b.1 b.2 c.1 c.2 d.1 d.2 e f) n ([],0)=some ([a,b,c,d].foldl (yx a b c d) []):=by
  obtain⟨m,hm⟩:∃m,n=m+5:=⟨n-5,by omega⟩
  have L5:∀l,qP n a.1 a.2 b.1 b.2 c.1 c.2 d.1 d.2 e f (l,((4:Nat):Int))=some (.inr l):=fun l=>by
   unfold qP
   dsimp only
   rw[aD (by decide)]
  have h0:=yb n e f ha hb hc hd ha hab hcd (by omega) [] (i:=0) (by decide) rfl
  have h1:=yb n e f ha hb hc hd hb hab hcd (by omega) (yx a b c d [] a) (i:=1) (by decide) rfl
  have h2:=yb n e f ha hb hc hd hc hab hcd (by omega) (yx a b c d (yx a b c d [] a) b) (i:=2) (by decide) rfl
  have h3:=yb n e f ha hb hc hd hd hab hcd (by omega) (yx a b c d (yx a b c d (yx a b c d [] a) b) c) (i:=3) (by decide) rfl
  have:∀body:(VB (I2×Bool)×Int)->VA ((VB (I2×Bool)×Int)⊕VB (I2×Bool)),body=qP n a.1 a.2 b.1 b.2 c.1 c.2 d.1 d.2 e f->bK body n ([],0)=some ([a,b,c,d].foldl (yx a b c d) []):=fun body hbd=>by
   rw[<-hbd] at h0 h1 h2 h3 L5;rw[hm,show(0:Int)=((0:Nat):Int) from rfl,fZ h0,fZ h1,fZ h2,fZ h3,fC (L5 _)]
   rfl
  exact this _ rfl
 obtain⟨k1,k2⟩:=AI (a:=a) (b:=b) (c:=c) (d:=d) [a,b,c,d] [] (by simp)
 have hlen:([a,b,c,d].foldl (yx a b c d) []).length=(([a,b,c,d].foldl (yx a b c d) []).map Prod.fst).length:=by rw[Si]
 rw[L,ai];generalize [a,b,c,d].foldl (yx a b c d) []=l at *;have kc:∀q,q∈l.map Prod.fst↔gX a b c d q:=fun q=>by
  rw[k2];unfold gX;constructor
  rintro(h|⟨h,g⟩)
  simp at h
  exact⟨by simpa only[Sr,List.not_mem_nil,or_false] using h,g⟩
  rintro⟨h,g⟩;exact .inr ⟨by simpa only[Sr,List.not_mem_nil,or_false] using h,g⟩
 rw[ai,ai,hlen];generalize l.map Prod.fst=ks at *;unfold nj
 by_cases h2:∃x y,gX a b c d x/\gX a b c d y/\x≠y
 obtain⟨x,y,hx,hy,hne⟩:=h2;have:=vq (l:=[x,y]) (m:=ks) (by simp[hne]) fun q hq=>by
  simp only[Sr,List.not_mem_nil,or_false] at hq;rcases hq with rfl|rfl
  exact(kc _).2 hx
  exact(kc _).2 hy
 have hl:2<=ks.length:=this;rw[aH (by omega),R7 ⟨x,y,hx,hy,hne⟩]
 ·have hl1:ks.length<=1:=by
   match ks,k1,kc with
   | [],_,_=>exact Tn _
   | [_],_,_=>exact Sa _
   | x::y::t,k1,kc =>
    refine Sw ⟨x,y,(kc x).1 (by simp),(kc y).1 (by simp),?_⟩ h2
    intro e; subst e; simp at k1
  rw[R5 h2,aD (by omega)]
  by_cases h1:∃x,gX a b c d x
  obtain⟨x,hx⟩:=h1;have:0<ks.length:=List.length_pos_of_mem ((kc x).2 hx);rw[R7 ⟨x,hx⟩,aH (by omega)]
  ·have:ks.length=0:=by
    match ks,kc with
    | [],_=>rfl
    | x::t,kc=>exact Sw ⟨x,(kc x).1 (by simp)⟩ h1
   rw[R5 h1,aD (by omega)]
   have w:∀u v:Int,UE (sg u*sg v)=sg u*sg v:=fun u v=>by
    have h1:=pz u;have h2:=pz v;rcases h1 with h1|h1|h1<;>rcases h2 with h2|h2|h2<;>rw[h1,h2]<;>decide
   have s:∀u v:Int,sg u*sg v<0↔(0<u/\v<0)\/(u<0/\0<v):=fun u v=>by
    have a1:=tL (z:=u);have a2:=js (z:=u);have b1:=tL (z:=v);have b2:=js (z:=v);have h1:=pz u;have h2:=pz v;rcases h1 with h1|h1|h1<;>rcases h2 with h2|h2|h2<;>rw[h1] at a1 a2 ⊢<;>rw[h2] at b1 b2 ⊢<;>omega
   rw[w,w,gU,ai,Fm]
   by_cases hx:wQ a b c d
   rw[R7 hx,R7];unfold wQ at hx;rw[R9,Sj,Sj,s,s];exact hx
   rw[R5 hx,R5];rw[R9,Sj,Sj,s,s];exact hx
def MB(n:Nat){a b c d:I2}(ha:pY a.1/\pY a.2)(hb:pY b.1/\pY b.2)(hc:pY c.1/\pY c.2)(hd:pY d.1/\pY d.2)(hn:5<n) :
  Ow n a.1 a.2 b.1 b.2 c.1 c.2 d.1 d.2=some (if Fa a\/Fa b\/Fa c\/Fa d\/a=b\/c=d then(0,2) else(nj a b c d,0)):=by
 classical
 unfold Ow;rw[sN n ha.1 ha.2,sN n hb.1 hb.2,sN n hc.1 hc.2,sN n hd.1 hd.2,ai,ai,ai,ai,ru,ru,ru,ru,ru,ai];have e1:(decide (a.1=b.1)&&decide (a.2=b.2))=decide (a=b):=by
  rw[<-S9,decide_eq_decide]; exact⟨fun h=>SO h.1 h.2,fun h=>by subst h; exact⟨rfl,rfl⟩⟩
 have e2:(decide (c.1=d.1)&&decide (c.2=d.2))=decide (c=d):=by
  rw[<-S9,decide_eq_decide]; exact⟨fun h=>SO h.1 h.2,fun h=>by subst h; exact⟨rfl,rfl⟩⟩
 rw[e1,e2,Fm];have hd:(decide (Fa (a.1,a.2)) ||(decide (Fa (b.1,b.2)) ||(decide (Fa (c.1,c.2)) ||(decide (Fa (d.1,d.2)) ||(decide (a=b)||decide (c=d))))))=decide (Fa a\/Fa b\/Fa c\/Fa d\/a=b\/c=d):=by
  simp only[Bool.decide_or]
 rw[hd]
 by_cases h:Fa a\/Fa b\/Fa c\/Fa d\/a=b\/c=d
 rw[R7 (Sd h),R7 h]
 rw[R5 (by simpa using h),R5 h]
 simp only[not_or] at h;obtain⟨h1,h2,h3,h4,h5,h6⟩:=h;rw[Ip n 0 0 (vN.1 h1) (vN.1 h2) (vN.1 h3) (vN.1 h4) h5 h6 hn,ai]
end
section
open Go Go.Ab Go.Ab.W Go.Ab.B Jd
def cj{ρ:Type}(f:Nat->VA ρ)(e:ρ):Nat->Nat->ρ
 | 0,_=>e
 | k+1,i=>match f i with
  | some r=>r
  | none=>cj f e k (i+1)
def dx{ρ:Type}{B:Int->VA (Int⊕ρ)}{f:Nat->VA ρ}{e:ρ}{len:Nat}(hB:∀i:Nat,i<len->B (i:Int)=some (match f i with|some r=>.inr r|none=>.inl ((i+1:Nat):Int)))(hE:B (len:Int)=some (.inr e)) :
  ∀(k i n:Nat),i+k=len->k<n->bK B n (i:Int)=some (cj f e k i)
 | 0,i,n+1,h,_=>by
  rw[TB] at h; subst h;simp only[bK,hE,cj]
 | k+1,i,n+1,h,hn=>by
  have:=hB i (by omega)
  simp only[bK,this,cj];cases hf:f i with
  | some r=>rfl
  | none=>exact dx hB hE k (i+1) n (by omega) (by omega)
def db{ρ:Type}{f:Nat->VA ρ}{e:ρ}:∀(k i:Nat),((∀j,i<=j->j<i+k->f j=none)/\cj f e k i=e)\/∃j,i<=j/\j<i+k/\f j=some (cj f e k i)
 | 0,i=>.inl ⟨fun j h1 h2=>by omega,rfl⟩
 | k+1,i=>by
  cases hf:f i with
  | some r=>exact .inr ⟨i,by omega,by omega,by simp only[cj,hf]⟩
  | none =>
   have e1:cj f e (k+1) i=cj f e k (i+1):=by simp only[cj,hf]
   rw[e1];rcases db (f:=f) (e:=e) k (i+1) with⟨h1,h2⟩|⟨j,h1,h2,h3⟩
   refine .inl ⟨fun j a b=>?_,h2⟩
   by_cases e:j=i
   rw[e]; exact hf
   exact h1 j (by omega) (by omega)
   exact .inr ⟨j,by omega,by omega,h3⟩
def lG{l:VB I2}{i:Nat}(h:i<l.length):l[((i:Nat):Int).toNat]? = some ((nx l i).1,(nx l i).2):=by
 rw[SG,R6 h];unfold nx;rw[TO h,Sc,R6 h]; rfl
def jZ(m n:Nat):Int.tmod (m:Int) (n:Int)=((m%n:Nat):Int):=rfl
def AE{l:VB I2}{i:Nat}:nx l (i%l.length)=nx l i:=by unfold nx; rw[Nat.mod_mod]
def QS{a b c:I2}(ha:Nr a)(hb:Nr b)(hc:Nr c):UE (UE ((UE (b.1-a.1))*(UE (c.1-b.1)))+UE ((UE (b.2-a.2))*(UE (c.2-b.2))))=di a b c:=by
 unfold Nr at ha hb hc;have m1:=gW (B:=2000000) (C:=2000000) (u:=b.1-a.1) (v:=c.1-b.1) (by decide) (by omega) (by omega) (by omega) (by omega)
 have m2:=gW (B:=2000000) (C:=2000000) (u:=b.2-a.2) (v:=c.2-b.2) (by decide) (by omega) (by omega) (by omega) (by omega)
 rw[aF (x:=b.1-a.1) (by omega) (by omega),aF (x:=c.1-b.1) (by omega) (by omega),aF (x:=b.2-a.2) (by omega) (by omega),aF (x:=c.2-b.2) (by omega) (by omega),
  aF (x:=(b.1-a.1)*(c.1-b.1)) (by omega) (by omega),aF (x:=(b.2-a.2)*(c.2-b.2)) (by omega) (by omega),aF (by omega) (by omega)]
 rfl
end
section
open Go Go.Ab Go.Ab.W Go.Ab.B Jd
def mq(l:VB I2)(i:Nat):VA (Int⊕VC):=if Fa (nx l i) then some (.inl (i:Int)) else none
def kg(l:VB I2)(i:Nat):VA (Int⊕VC):=if nx l i=nx l (i+1) then some (.inl (i:Int)) else none
def kS(l:VB I2)(i:Nat):VA (Int⊕VC):=if ti (nx l (i+l.length-1)) (nx l i) (nx l (i+1))=0/\di (nx l (i+l.length-1)) (nx l i) (nx l (i+1))<0 then some (.inl (i:Int)) else none
def BL(l:VB I2)(i j:Nat):Prop:=¬(j=0/\i=l.length-1)/\nj (nx l j) (nx l (j+1)) (nx l i) (nx l (i+1))≠0
open Classical in
noncomputable def k6 (l:VB I2) (i:Nat):VA (Int⊕VC):=if ∃j,j+1<i/\BL l i j then some (.inl (i:Int)) else none
noncomputable def vB (l:VB I2):Int×Int :=
 if l.length<3\/40<l.length then(1,0) else
 match cj (mq l) (.inr ()) l.length 0 with
 | .inl v=>(2,v)
 | .inr _=>match cj (kg l) (.inr ()) l.length 0 with
  | .inl v=>(3,v)
  | .inr _=>match cj (kS l) (.inr ()) l.length 0 with
   | .inl v=>(4,v)
   | .inr _=>match cj (k6 l) (.inr ()) l.length 0 with
    | .inl v=>(5,v)
    | .inr _=>(0,0)
section
variable{l:VB I2}(n:Nat)
def FI(p q:I2):(decide (p.1=q.1)&&decide (p.2=q.2))=decide (p=q):=by
 rw[<-S9,decide_eq_decide]; exact⟨fun h=>SO h.1 h.2,fun h=>by subst h; exact⟨rfl,rfl⟩⟩
def Gd(h64:∀i,pY (nx l i).1/\pY (nx l i).2)(hn:l.length<n)(hl:l.length<100):bK (yU n l) n 0=some (cj (mq l) (.inr ()) l.length 0):=by
 refine dx (len:=l.length) (fun i hi=>?_) ?_ l.length 0 n (by omega) hn
 unfold yU mq
 dsimp only
 rw[aH (by omega),aA hi,bc,lG hi,ai]
 dsimp only
 rw[sN n (h64 i).1 (h64 i).2,ai,av (by omega)]
 by_cases h:Fa (nx l i)
 rw[aH (show Fa ((nx l i).1,(nx l i).2) from h),R7 h]
 rw[aD (show ¬Fa ((nx l i).1,(nx l i).2) from h),R5 h]
 unfold yU
 dsimp only
 rw[aD (by omega)]
def ll(i:Nat)(hi:i<l.length)(hl:l.length<100){β:Type}(K:Int×Int->VA β) :
  gd (decide ((l.length:Int)≠0)) (gd (cz (Int.tmod ((i+1:Nat):Int) (l.length:Int)) l.length) (ob (l[(Int.tmod ((i+1:Nat):Int) (l.length:Int)).toNat]?) K))=K ((nx l (i+1)).1,(nx l (i+1)).2):=by
 have hm:(i+1)%l.length<l.length:=SY _ (by omega)
 rw[Sd (show((l.length:Nat):Int)≠0 by omega),bc,jZ,aA hm,bc,lG hm,ai,AE]
def EO(hn:l.length<n)(hl:l.length<100):bK (Al n l) n 0=some (cj (kg l) (.inr ()) l.length 0):=by
 refine dx (len:=l.length) (fun i hi=>?_) ?_ l.length 0 n (by omega) hn
 unfold Al kg
 dsimp only
 rw[aH (by omega),aA hi,bc,lG hi,ai]
 dsimp only
 rw[av (by omega),ll i hi hl]
 dsimp only
 rw[FI]
 by_cases h:nx l i=nx l (i+1)
 rw[aH h,R7 h]; rfl
 rw[aD h,R5 h]; rfl
 unfold Al
 dsimp only
 rw[aD (by omega)]
def Fy(hnr:∀i,Nr (nx l i))(hn:l.length<n)(hl:l.length<100):bK (Aa n l) n 0=some (cj (kS l) (.inr ()) l.length 0):=by
 refine dx (len:=l.length) (fun i hi=>?_) ?_ l.length 0 n (by omega) hn
 have hm:(i+l.length-1)%l.length<l.length:=SY _ (by omega)
 have e1:UE ((UE ((i:Int)+(l.length:Int)))-1)=((i+l.length-1:Nat):Int):=by
  rw[aF (x:=(i:Int)+(l.length:Int)) (by omega) (by omega),aF (by omega) (by omega)]; omega
 unfold Aa kS
 dsimp only
 rw[aH (by omega),aA hi,bc,lG hi,ai]
 dsimp only
 rw[av (by omega),ll i hi hl]
 dsimp only
 rw[e1,Sd (show((l.length:Nat):Int)≠0 by omega),bc,jZ,ai,aA hm,bc,lG hm,AE,ai]
 dsimp only
 rw[qA n (hnr _) (hnr _) (hnr _),ai,ai,ai,QS (hnr _) (hnr _) (hnr _),gU,ai,<-S9]
 by_cases h:ti (nx l (i+l.length-1)) (nx l i) (nx l (i+1))=0/\di (nx l (i+l.length-1)) (nx l i) (nx l (i+1))<0
 rw[aH (show _/\_ from⟨pD.2 h.1,h.2⟩),R7 h]; rfl
 rw[aD (fun g=>h ⟨pD.1 g.1,g.2⟩),R5 h]; rfl
 unfold Aa
 dsimp only
 rw[aD (by omega)]
end
end
section
open Go Go.Ab Go.Ab.W Go.Ab.B Jd
section
variable{l:VB I2}(n:Nat)
open Classical in
noncomputable def EZ {ρ:Type} (l:VB I2) (r:ρ) (i j:Nat):VA ρ:=if BL l i j then some r else none
def NK{ρ:Type}{r e:ρ}(hre:r≠e){i:Nat}:(cj (EZ l r i) e (i-1) 0=r/\∃j,j+1<i/\BL l i j)\/(cj (EZ l r i) e (i-1) 0=e/\¬∃j,j+1<i/\BL l i j):=by
 classical
 rcases db (f:=EZ l r i) (e:=e) (i-1) 0 with⟨h1,h2⟩|⟨j,_,h2,h3⟩
 refine .inr ⟨h2,?_⟩;rintro⟨j,hj,hh⟩;have:=h1 j (by omega) (by omega)
 unfold EZ at this;rw[R7 hh] at this;cases this
 unfold EZ at h3
 split at h3
 rename_i hh;exact .inl ⟨(Sb h3).symm,j,by omega,hh⟩
 cases h3
def Gq(hnr:∀i,Nr (nx l i))(hst:∀i,nx l i≠nx l (i+1)){i:Nat}(hi:i<l.length)(hn:l.length<n)(h5:5<n)(hl:l.length<100) :
  bK (As n l (i:Int) (nx l i).1 (nx l i).2 (nx l (i+1)).1 (nx l (i+1)).2) n 0=some (cj (EZ l (.inr (.inl ())) i) (.inl ()) (i-1) 0):=by
 classical
 have hne:l≠[]:=by rintro rfl; cases hi
 have e0:UE ((i:Int)-1)=(i:Int)-1:=aF (by omega) (by omega)
 refine dx (len:=i-1) (fun j hj=>?_) ?_ (i-1) 0 n (by omega) (by omega)
 ·have e1:UE ((l.length:Int)-1)=(l.length:Int)-1:=aF (by omega) (by omega)
  unfold As EZ
  dsimp only
  rw[aH (by omega),aA (by omega),bc,lG (by omega),ai]
  dsimp only
  rw[av (by omega),ll j (by omega) hl]
  try dsimp only
  rw[e0,aD (by omega),gU,ai,e1,<-S9]
  by_cases h:(j:Int)=0/\(i:Int)=(l.length:Int)-1
  rw[aH h,ai,R5 (fun g:BL l i j=>g.1 ⟨by omega,by omega⟩)]
  rw[aD h,Ip n _ _ (hnr _) (hnr _) (hnr _) (hnr _) (hst _) (hst _) h5,sb,ai]
  by_cases g:nj (nx l j) (nx l (j+1)) (nx l i) (nx l (i+1))=0
  rw[Sd g,S0,jl,ai,R5 (fun k:BL l i j=>k.2 g)]
  rw[Sm g,SV,lN,ai,R7 (show BL l i j from⟨fun k=>h ⟨by omega,by omega⟩,g⟩)]
 ·unfold As
  dsimp only
  rw[aH (by omega),aA (by omega),bc,lG (by omega),ai]
  dsimp only
  rw[av (by omega),ll (i-1) (by omega) hl]
  try dsimp only
  rw[e0,aH (by omega),ai]
def Gk(hnr:∀i,Nr (nx l i))(hst:∀i,nx l i≠nx l (i+1))(hn:l.length<n)(h5:5<n)(hl:l.length<100):bK (zD n l) n 0=some (cj (k6 l) (.inr ()) l.length 0):=by
 classical
 refine dx (len:=l.length) (fun i hi=>?_) ?_ l.length 0 n (by omega) hn
 unfold zD k6
 dsimp only
 rw[aH (by omega),aA hi,bc,lG hi,ai]
 dsimp only
 rw[av (by omega),ll i hi hl]
 dsimp only
 rw[ai,Gq n hnr hst hi hn h5 hl,ai];rcases NK (l:=l) (r:=(.inr (.inl ()):VC⊕VC⊕VC)) (e:=.inl ()) (by simp) (i:=i) with⟨h1,h2⟩|⟨h1,h2⟩
 rw[h1,R7 h2]; rfl
 rw[h1,R5 h2]; rfl
 unfold zD
 dsimp only
 rw[aD (by omega)]
def kF{f:Nat->VA (Int⊕VC)}(hf:∀j r,f j=some r->r≠.inr ()){k:Nat}(h:cj f (.inr ()) k 0=.inr ()):∀j,j<k->f j=none:=by
 rcases db (f:=f) (e:=.inr ()) k 0 with⟨h1,_⟩|⟨j,_,_,h3⟩
 exact fun j hj=>h1 j (by omega) (by omega)
 rw[h] at h3; exact Sw rfl (hf j _ h3)
def A5{P:I2->Prop}(hl:0<l.length)(h:∀i,i<l.length->P (nx l i))(i:Nat):P (nx l i):=by
 rw[<-AE]; exact h _ (SY _ hl)
def rz{i:Nat}:nx l (i%l.length+1)=nx l (i+1):=by unfold nx; rw[Nat.mod_add_mod]
def B7(hl:0<l.length)(h:cj (mq l) (.inr ()) l.length 0=.inr ()):∀i,Nr (nx l i):=by
 refine A5 hl fun i hi=>?_;have:=kF (fun j r hr=>by unfold mq at hr; split at hr<;>cases hr; simp) h i hi
 unfold mq at this
 split at this
 cases this
 rename_i g; exact vN.1 g
def EU(hl:0<l.length)(h:cj (kg l) (.inr ()) l.length 0=.inr ()):∀i,nx l i≠nx l (i+1):=fun i=>by
 have:=kF (fun j r hr=>by unfold kg at hr; split at hr<;>cases hr; simp) h (i%l.length) (SY _ hl)
 unfold kg at this
 split at this
 cases this
 rename_i g;rw[AE,rz] at g;exact g
def CP(v:Int)(h:cj (mq l) (.inr ()) l.length 0=.inl v):0<=v:=by
 rcases db (f:=mq l) (e:=.inr ()) l.length 0 with⟨_,h2⟩|⟨j,_,_,h3⟩
 rw[h] at h2; cases h2
 rw[h] at h3;unfold mq at h3
 split at h3
 cases h3; omega
 cases h3
def LP(h64:∀x∈l,pY x.1/\pY x.2)(hn:l.length<n)(h5:41<n):Pb n l=some (vB l):=by
 unfold Pb vB;rw[ru,ai,<-Bool.decide_or]
 by_cases h:l.length<3\/40<l.length
 rw[aH (by omega),R7 h]
 ·have h64':∀i,pY (nx l i).1/\pY (nx l i).2:=A5 (P:=fun x=>pY x.1/\pY x.2) (by omega) fun i hi=>by
   refine h64 _ ?_;unfold nx;rw[TO hi,Sc,R6 hi];exact Su hi
  rw[aD (by omega),R5 h,Gd n h64' hn (by omega),ai]
  cases h1:cj (mq l) (.inr ()) l.length 0 with
  | inl v =>
   have:=CP v h1
   dsimp only
   rw[ai,aH this]
  | inr _ =>
   have hnr:=B7 (by omega) h1
   dsimp only
   rw[ai,aD (by omega),ai,EO n hn (by omega),ai]
   cases h2:cj (kg l) (.inr ()) l.length 0 with
   | inl v=>rfl
   | inr _ =>
    have hst:=EU (by omega) h2
    dsimp only
    rw[ai]
    dsimp only
    rw[ai,Fy n hnr hn (by omega),ai]
    cases h3:cj (kS l) (.inr ()) l.length 0 with
    | inl v=>rfl
    | inr _ =>
     dsimp only
     rw[ai]
     dsimp only
     rw[ai,Gk n hnr hst hn (by omega) (by omega),ai]
     cases h4:cj (k6 l) (.inr ()) l.length 0<;>rfl
def xC(l:VB I2):Prop:=(vB l).1<=0
open Classical in
def MD(h64:∀x∈l,pY x.1/\pY x.2)(hn:l.length<n)(h5:41<n):PV n l=some (if xC l then 0 else 140):=by
 unfold PV xC;rw[LP n h64 hn h5,ai];obtain⟨a,b⟩:=vB l
 dsimp only
 by_cases h:0<a
 rw[aH h,UG]
 rw[aD h,UH]
end
end
section
open Go Go.Ab Go.Ab.W Go.Ab.B Jd
structure Ok(l:VB I2):Prop where
 len:l.length<=40
 nr:∀i,Nr (nx l i)
 vr:VR l
def nL{ρ:Type}{f:Nat->VA ρ}{e:ρ}{k i:Nat}(h:∀j,i<=j->j<i+k->f j=none):cj f e k i=e:=by
 rcases db (f:=f) (e:=e) k i with⟨_,h2⟩|⟨j,h1,h2,h3⟩
 exact h2
 rw[h j h1 h2] at h3; cases h3
def FM{i L:Nat}(hL:0<L):((i+1)%L+L-1)%L=i%L:=by
 have h:=Nat.div_add_mod (i+1) L;have:((i+1)%L+L-1)+L*((i+1)/L)=i+L:=by omega
 rw[<-Nat.add_mul_mod_self_left ((i+1)%L+L-1) L ((i+1)/L),this,Nat.add_mod_right]
def Ok.xC{l:VB I2}(h:Ok l):xC l:=by
 have hn:=h.vr.n3;have hl:=h.len;unfold Go.Proofs.Ytmndpgfbkicndaa.xC vB;rw[UG,nL (f:=mq l) fun j _ _=>by unfold mq; rw[R5 (vN.2 (h.nr j))]]
 dsimp only
 rw[nL (f:=kg l) fun j _ _=>by unfold kg; rw[R5 (h.vr.still j)]]
 dsimp only
 rw[nL (f:=kS l) fun j _ hj=>by
  unfold kS;have:=h.vr.spike (j+l.length-1);rw[show j+l.length-1+1=j+l.length by omega,show j+l.length-1+2=(j+1)+l.length by omega,jh l (Nat.add_mod_right j l.length),jh l (Nat.add_mod_right (j+1) l.length)] at this
  rw[R5 this]]
 dsimp only
 rw[nL (f:=k6 l) fun j _ hj=>by
  unfold k6;rw[R5];rintro⟨t,ht,h1,h2⟩;exact h2 (B1.2 (h.vr.meet t j ht (by omega) fun e=>h1 ⟨e.1,by omega⟩))]
 exact Int.le_refl 0
def xC.ok{l:VB I2}(h:xC l):Ok l:=by
 unfold Go.Proofs.Ytmndpgfbkicndaa.xC vB at h
 split at h
 exact Sw (show(1:Int)<=0 from h) (by decide)
 ·rename_i hl;cases h1:cj (mq l) (.inr ()) l.length 0 with
  | inl v=>rw[h1] at h; exact Sw (show(2:Int)<=0 from h) (by decide)
  | inr _ =>
   rw[h1] at h
   dsimp only at h
   cases h2:cj (kg l) (.inr ()) l.length 0 with
   | inl v=>rw[h2] at h; exact Sw (show(3:Int)<=0 from h) (by decide)
   | inr _ =>
    rw[h2] at h
    dsimp only at h
    cases h3:cj (kS l) (.inr ()) l.length 0 with
    | inl v=>rw[h3] at h; exact Sw (show(4:Int)<=0 from h) (by decide)
    | inr _ =>
     rw[h3] at h
     dsimp only at h
     cases h4:cj (k6 l) (.inr ()) l.length 0 with
     | inl v=>rw[h4] at h; exact Sw (show(5:Int)<=0 from h) (by decide)
     | inr _ =>
      have hL:0<l.length:=by omega
      refine⟨by omega,B7 hL h1,by omega,EU hL h2,fun i=>?_,fun j i hji hi hn=>?_⟩
      have:=kF (fun j r hr=>by unfold kS at hr; split at hr<;>cases hr; simp) h3 ((i+1)%l.length) (SY _ hL)
      unfold kS at this
      split at this
      cases this
      rename_i g;rw[jh l (FM hL),AE,rz] at g;exact g
      have:=kF (fun j r hr=>by unfold k6 at hr; split at hr<;>cases hr; simp) h4 i hi
      unfold k6 at this
      split at this
      cases this
      rename_i g;refine B1.1 (R8 fun e=>g ⟨j,hji,fun k=>hn ⟨k.1,by omega⟩,e⟩)
def xT{l:VB I2}:xC l↔Ok l:=⟨xC.ok,Ok.xC⟩
section
variable(n:Nat){l:VB Nat}(hb:∀ x∈l, x < 256)(x5 x6:Int)(x7:Nat)(x8 x9:Bool)
include hb
end
end
section
open Go Go.Ab Go.Ab.W Go.Ab.B Jd
section
variable{l:VB Nat}
end
structure Dr(l:VB Nat)(x5 x6:Int)(x7:Nat):Prop where
 b:∀x∈l,x<256
 x : -32768<=x5/\x5<=32767
 y : -32768<=x6/\x6<=32767
 s:x7<256
end
section
open Go Go.Ab Go.Ab.W Go.Ab.B Jd
structure Bd(x2 x3:Nat)(x4 x5:Int):Prop where
 at_:x2<256
 to:x3<256
 x:pY x4
 y:pY x5
end
section
open Go Go.Ab Go.Ab.W Go.Ab.B Jd
def ga{σ τ ρ:Type}{B:τ->VA (τ⊕ρ)}{len:Nat}(st:Nat->σ->τ)(inv:Nat->σ->Prop)(Post:ρ->Prop)
  (hB:∀i s,i<len->inv i s->(∃s',B (st i s)=some (.inl (st (i+1) s'))/\inv (i+1) s')\/∃r,B (st i s)=some (.inr r)/\Post r)
  (hE:∀s,inv len s->∃r,B (st len s)=some (.inr r)/\Post r):∀(k i:Nat) (s:σ) (n:Nat),i+k=len->k<n->inv i s->∃r,bK B n (st i s)=some r/\Post r
 | 0,i,s,n+1,h,_,hi=>by
  rw[TB] at h; subst h;obtain⟨r,h1,h2⟩:=hE s hi;exact⟨r,fC h1,h2⟩
 | k+1,i,s,n+1,h,hn,hi=>by
  rcases hB i s (by omega) hi with⟨s',h1,h2⟩|⟨r,h1,h2⟩
  rw[fZ h1]; exact ga st inv Post hB hE k (i+1) s' n (by omega) (by omega) h2
  exact⟨r,fC h1,h2⟩
def Aw{f:Nat->Int}(h:∀i,-8000000000000<=f i/\f i<=8000000000000):∀n:Nat,-(8000000000000*(n:Int))<=aZ n f/\aZ n f<=8000000000000*(n:Int)
 | 0=>by simp[aZ]
 | n+1=>by
  have h1:=Aw h n;have h2:=h n;simp only[aZ];omega
section
variable{l:VB I2}(n:Nat)
def PU{a b o:I2}(ha:Nr a)(hb:Nr b)(ho:Nr o) : -8000000000000<=(a.1-o.1)*(b.2-o.2)-(a.2-o.2)*(b.1-o.1)/\(a.1-o.1)*(b.2-o.2)-(a.2-o.2)*(b.1-o.1)<=8000000000000:=by
 unfold Nr at ha hb ho;have m1:=gW (B:=2000000) (C:=2000000) (u:=a.1-o.1) (v:=b.2-o.2) (by decide) (by omega) (by omega) (by omega) (by omega)
 have m2:=gW (B:=2000000) (C:=2000000) (u:=a.2-o.2) (v:=b.1-o.1) (by decide) (by omega) (by omega) (by omega) (by omega)
 omega
open Classical in
noncomputable def side (l:VB I2) (p:I2):Int:=if ∃i,i<l.length/\cC (nx l i) (nx l (i+1)) p then 1 else if cL l p=0 then 0 else 2
def IE(l:VB I2)(p:I2):∀i:Nat,-(i:Int)<=aZ i (fun i=>wi (nx l i) (nx l (i+1)) p)/\aZ i (fun i=>wi (nx l i) (nx l (i+1)) p)<=(i:Int)
 | 0=>by simp[aZ]
 | i+1=>by
  have h1:=IE l p i;have h2:=IA (nx l i) (nx l (i+1)) p;simp only[aZ];omega
end
end
end Go.Proofs.Ytmndpgfbkicndaa
end
section
namespace Go.Proofs.Ytmndpgfbkicndaa
open Go Go.Ab Go.Ab.W Go.Ab.B Jd
def Nw(p:I2):Prop:=-4000000<=p.1/\p.1<=4000000/\-4000000<=p.2/\p.2<=4000000
def PH{a b c:I2}(ha:Nw a)(hb:Nw b)(hc:Nw c) :
  UE (UE ((UE (b.1-a.1))*(UE (c.2-a.2)))-UE ((UE (b.2-a.2))*(UE (c.1-a.1))))=ti a b c:=by
 unfold Nw at ha hb hc;have m1:=gW (B:=8000000) (C:=8000000) (u:=b.1-a.1) (v:=c.2-a.2) (by decide) (by omega) (by omega) (by omega) (by omega)
 have m2:=gW (B:=8000000) (C:=8000000) (u:=b.2-a.2) (v:=c.1-a.1) (by decide) (by omega) (by omega) (by omega) (by omega)
 rw[aF (x:=b.1-a.1) (by omega) (by omega),aF (x:=c.2-a.2) (by omega) (by omega),aF (x:=b.2-a.2) (by omega) (by omega),aF (x:=c.1-a.1) (by omega) (by omega)]
 unfold ti;generalize(b.1-a.1)*(c.2-a.2)=u at *;generalize(b.2-a.2)*(c.1-a.1)=v at *;rw[aF (x:=u) (by omega) (by omega),aF (x:=v) (by omega) (by omega),aF (by omega) (by omega)]
section
variable{l:VB I2}(n:Nat)
def Ge{p:I2}(hnr:∀i,Nw (nx l i))(hp:Nw p)(hL:l.length<100)(hn:l.length<n):K1 n l p.1 p.2=some (side l p):=by
 have L:∃r,bK (tj n l p.2 p.1) n ((0:Int),((0:Nat):Int))=some r/\match r with
   | .inl _=>∃i,i<l.length/\cC (nx l i) (nx l (i+1)) p
   | .inr w=>(∀i,i<l.length->¬cC (nx l i) (nx l (i+1)) p)/\w=cL l p:=by
  refine ga (len:=l.length) (fun i (s:Int)=>(s,(i:Int))) (fun i s=>(∀j,j<i->¬cC (nx l j) (nx l (j+1)) p)/\s=aZ i fun i=>wi (nx l i) (nx l (i+1)) p) _ (fun i s hi hs=>?_) (fun s hs=>?_) l.length 0 0 n (by omega) hn ⟨fun j hj=>Sw hj (Nat.not_lt_zero _),rfl⟩
  ·have hw:=IE l p i;have hwi:=IA (nx l i) (nx l (i+1)) p;have hbase:tj n l p.2 p.1 (s,(i:Int))=if cC (nx l i) (nx l (i+1)) p then some (.inr (.inl ())) else some (.inl (s+wi (nx l i) (nx l (i+1)) p,((i+1:Nat):Int))):=by
    unfold tj
    try dsimp only
    rw[aH (by omega),aA hi,bc,lG hi,ai]
    try dsimp only
    rw[av (by omega),ll i hi (by omega)]
    try dsimp only
    rw[ai,ai,PH (hnr i) (hnr (i+1)) hp];have hB:(decide (ti (nx l i) (nx l (i+1)) p=0) &&(decide (mi (nx l i).1 (nx l (i+1)).1<=p.1) &&(decide (p.1<=ma (nx l i).1 (nx l (i+1)).1) &&(decide (mi (nx l i).2 (nx l (i+1)).2<=p.2)&&decide (p.2<=ma (nx l i).2 (nx l (i+1)).2)))))=decide (cC (nx l i) (nx l (i+1)) p):=by
     rw[ji,ji,iE,iE,<-S9,<-S9,<-S9,<-S9,decide_eq_decide];exact Iff.rfl
    rw[gU,gU,gU,gU,hB,ai]
    by_cases hb:cC (nx l i) (nx l (i+1)) p
    rw[aH hb,ai,R7 hb]
    rw[aD hb,R5 hb,gU,gU,ai];unfold wi
    by_cases c1:(nx l i).2<=p.2/\p.2<(nx l (i+1)).2/\0<ti (nx l i) (nx l (i+1)) p
    rw[R7 c1,Sd c1.1,Sd c1.2.1,Sd c1.2.2,TL,TL,lN,ai,aF (by rw[hs.2]; omega) (by rw[hs.2]; omega)]
    have e1:(decide ((nx l i).2<=p.2) &&(decide (p.2<(nx l (i+1)).2)&&decide (0<ti (nx l i) (nx l (i+1)) p)))=false:=by
     rw[<-S9,<-S9]; exact Sm fun g=>c1 ⟨g.1,g.2.1,g.2.2⟩
    rw[R5 c1,e1,jl,gU,gU,ai]
    by_cases c2:(nx l (i+1)).2<=p.2/\p.2<(nx l i).2/\ti (nx l i) (nx l (i+1)) p<0
    rw[R7 c2,Sd c2.1,Sd c2.2.1,Sd c2.2.2,TL,TL,lN,ai,aF (by rw[hs.2]; omega) (by rw[hs.2]; omega)]
    rfl
    have e2:(decide (p.2<(nx l i).2) &&(decide ((nx l (i+1)).2<=p.2)&&decide (ti (nx l i) (nx l (i+1)) p<0)))=false:=by
     rw[<-S9,<-S9]; exact Sm fun g=>c2 ⟨g.2.1,g.1,g.2.2⟩
    rw[R5 c2,e2,jl,ai,Int.add_zero]
   by_cases hb:cC (nx l i) (nx l (i+1)) p
   exact .inr ⟨.inl (),by rw[hbase,R7 hb],⟨i,hi,hb⟩⟩
   refine .inl ⟨s+wi (nx l i) (nx l (i+1)) p,by rw[hbase,R5 hb],fun j hj=>?_,by rw[hs.2]; rfl⟩
   by_cases e:j=i
   rw[e]; exact hb
   exact hs.1 j (by omega)
  ·refine⟨.inr s,?_,hs.1,hs.2⟩;unfold tj
   try dsimp only
   rw[aD (by omega)]
 obtain⟨r,h1,h2⟩:=L;have h1':bK (tj n l p.2 p.1) n (0,0)=some r:=h1;unfold K1;rw[h1',ai];unfold side;cases r with
 | inl s =>
  dsimp only at h2
  rw[R7 h2]
 | inr w =>
  obtain⟨g1,g2⟩:=h2;rw[R5 (fun⟨i,a,b⟩=>g1 i a b)]
  try dsimp only
  rw[g2]
  by_cases e:cL l p=0
  rw[aH e,R7 e]
  rw[aD e,R5 e]
end
def BH{α β ρ:Type}{B:(VB β×Int)->VA ((VB β×Int)⊕ρ)}{l:VB α}(f:α->β)(out:VB β->ρ)
  (hB:∀i x,l[i]? = some x->i<l.length->B ((l.take i).map f,(i:Int))=some (.inl ((l.take i).map f++[f x],((i+1:Nat):Int))))
  (hE:B (l.map f,(l.length:Int))=some (.inr (out (l.map f)))) {n:Nat} (hn:l.length<n):bK B n ([],0)=some (out (l.map f)):=by
 obtain⟨r,h1,h2⟩:=ga (B:=B) (len:=l.length) (fun i (s:VB β)=>(s,(i:Int))) (fun i s=>s=(l.take i).map f) (fun r=>r=out (l.map f)) (fun i s hi hs=>by
  subst hs;have hx:=R6 hi;refine .inl ⟨_,hB i _ hx hi,?_⟩;rw[T9,hx,List.map_append]; rfl) (fun s hs=>by
  subst hs;rw[List.take_length];exact⟨_,hE,rfl⟩) l.length 0 [] n (by omega) hn rfl
 subst h2;exact h1
def eO(pts:VB I2)(i:Int):I2:=pts.getD i.toNat (0,0)
def dG(pts:VB I2)(l:VB Int)(t:Int):VB I2:=l.map fun i=>(t*(eO pts i).1,t*(eO pts i).2)
def Ix(pts:VB I2)(l:VB Int):Prop:=∀i∈l,0<=i/\i<pts.length
def ig(pts:VB I2):Prop:=∀q∈pts,Nr q
def oC{pts:VB I2}{i:Int}(h:0<=i/\i<pts.length):pts[i.toNat]? = some (eO pts i):=by
 unfold eO;rw[Sc,R6 (by omega)]; rfl
def ja{pts:VB I2}(hb:ig pts){i:Int}(h:0<=i/\i<pts.length):Nr (eO pts i):=hb _ (SA (oC h))
def dZ(pts:VB I2)(l:VB Int)(t:Int):(dG pts l t).length=l.length:=Si _
def bw{k:Nat}(h:k<=1000000):lim k=true:=Nat.ble_eq_true_of_le (by omega)
section
variable{pts:VB I2}{F:Us}{l:VB Int}{t:Int}(n:Nat)
def ug(hb:ig pts)(hx:Ix pts l)(ht:t=1\/t=2)(hl:l.length<=1000)(hn:l.length<n):IY n pts F l t=some (dG pts l t):=by
 have h:=BH (B:=yK n l pts t) (l:=l) (fun i=>(t*(eO pts i).1,t*(eO pts i).2)) (fun s=>s) (fun i x hi hil=>by
  have hxi:=hx x (SA hi);have hnr:=ja hb hxi;unfold Nr at hnr;unfold yK
  try dsimp only
  rw[aH (by omega),aA hil,bc,SG,hi,ai,show cz x pts.length=true from Sd ⟨hxi.1,by omega⟩,bc,oC hxi,ai]
  try dsimp only
  rw[bc,aF (by rcases ht with rfl|rfl<;>omega) (by rcases ht with rfl|rfl<;>omega),aF (by rcases ht with rfl|rfl<;>omega) (by rcases ht with rfl|rfl<;>omega),bw (by simp; omega),bc,av (by omega)]) (by
  unfold yK
  try dsimp only
  rw[aD (by omega)]) hn
 unfold IY;rw[h,ai]; rfl
def FC{r:VB I2}(hnr:∀i,Nr (nx r i))(hL:r.length<100)(hn:r.length<n):N8 n r=some (eE r):=by
 have hb:∀i,-8000000000000<=(nx r i).1*(nx r (i+1)).2-(nx r i).2*(nx r (i+1)).1/\(nx r i).1*(nx r (i+1)).2-(nx r i).2*(nx r (i+1)).1<=8000000000000:=fun i=>by
  have:=PU (hnr i) (hnr (i+1)) (show Nr (0,0) by unfold Nr; omega)
  simpa using this
 have L:∃z,bK (u1 n r) n ((0:Int),((0:Nat):Int))=some z/\z=eE r:=by
  refine ga (len:=r.length) (fun i (s:Int)=>(s,(i:Int))) (fun i s=>s=aZ i fun i=>(nx r i).1*(nx r (i+1)).2-(nx r i).2*(nx r (i+1)).1) _ (fun i s hi hs=>?_) (fun s hs=>?_) r.length 0 0 n (by omega) hn rfl
  ·have hbi:=Aw hb i;refine .inl ⟨s+((nx r i).1*(nx r (i+1)).2-(nx r i).2*(nx r (i+1)).1),?_,by rw[hs]; rfl⟩
   unfold u1
   try dsimp only
   rw[aH (by omega),aA hi,bc,lG hi,ai]
   try dsimp only
   rw[av (by omega),ll i hi (by omega)]
   try dsimp only
   rw[ai];have h1:=hnr i;have h2:=hnr (i+1);have h3:=hb i;unfold Nr at h1 h2;have m1:=gW (B:=1000000) (C:=1000000) (u:=(nx r i).1) (v:=(nx r (i+1)).2) (by decide) (by omega) (by omega) (by omega) (by omega)
   have m2:=gW (B:=1000000) (C:=1000000) (u:=(nx r i).2) (v:=(nx r (i+1)).1) (by decide) (by omega) (by omega) (by omega) (by omega)
   generalize(nx r i).1*(nx r (i+1)).2=u at *;generalize(nx r i).2*(nx r (i+1)).1=v at *;rw[aF (x:=u) (by omega) (by omega),aF (x:=v) (by omega) (by omega),aF (x:=u-v) (by omega) (by omega),aF (by rw[hs]; omega) (by rw[hs]; omega)]
  ·refine⟨s,?_,hs⟩;unfold u1
   try dsimp only
   rw[aD (by omega)]
 obtain⟨z,h1,h2⟩:=L;have h1':bK (u1 n r) n (0,0)=some z:=h1;unfold N8;rw[h1',ai,h2]
end
def NT(n:Nat)(p:I2):Oa n p.1 p.2=some (decide (Fa p)):=by
 unfold Oa Fa;rw[iE,ji,ru];refine SH some ?_;have:(min p.1 p.2 < -1000000\/1000000<max p.1 p.2)↔(p.1 < -1000000\/1000000<p.1\/p.2 < -1000000\/1000000<p.2):=by omega
 simp only[<-this,Bool.decide_or]
def DR{α β:Type}[DecidableEq α](xs:VB (α×β))(k k':α)(v:β):dR (iW xs k v) k'=(if k'=k then some v else dR xs k')/\(iW xs k v).length=(if dR xs k=none then xs.length+1 else xs.length):=by
 have key:∀(xs:VB (α×β)) (i:Nat),(cN k xs i=none->∀j,(cN k' (xs++[(k,v)]) j).map (·.2)=if k'=k then some v else(cN k' xs j).map (·.2)) /\
   (∀p,cN k xs i=some p->i<=p.1/\∀j,(cN k' (xs.set (p.1-i) (k,v)) j).map (·.2)=if k'=k then some v else(cN k' xs j).map (·.2)):=by
  intro xs
  induction xs with
  | nil =>
   intro i;refine⟨fun _ j=>?_,fun p h=>by simp[cN] at h⟩
   simp only[Ty,cN]
   by_cases h:k'=k<;>simp[h]
  | cons e xs ih =>
   intro i
   by_cases he:k=e.1
   refine⟨fun h=>by simp[cN,he] at h,fun p h=>?_⟩
   have hp:p=(i,e.2):=by simp[cN,he] at h; exact h.symm
   subst hp;refine⟨Sa _,fun j=>?_⟩;simp only[Ur,List.set_cons_zero,cN]
   by_cases h:k'=k
   simp[h]
   have:k'≠e.1:=fun c=>h (c.trans he.symm);simp[h,this]
   refine⟨fun h j=>?_,fun p h=>?_⟩
   have h':cN k xs (i+1)=none:=by simpa [cN,he] using h
   simp only[TX,cN]
   by_cases h2:k'=e.1
   have:k'≠k:=fun c=>he (c.symm.trans h2);simp[h2,Ne.symm he]
   simp only[R5 h2];exact(ih (i+1)).1 h' (j+1)
   have h':cN k xs (i+1)=some p:=by simpa [cN,he] using h
   obtain⟨g1,g2⟩:=(ih (i+1)).2 p h';refine⟨by omega,fun j=>?_⟩
   rw[show p.1-i=(p.1-(i+1))+1 by omega,List.set_cons_succ]
   simp only[cN]
   by_cases h2:k'=e.1
   have:k'≠k:=fun c=>he (c.symm.trans h2);simp[h2,Ne.symm he]
   simp only[R5 h2];exact g2 (j+1)
 unfold dR iW;cases h:cN k xs 0 with
 | none=>exact⟨(key xs 0).1 h 0,by simp⟩
 | some p=>exact⟨((key xs 0).2 p h).2 0,by simp⟩
def qx{α β:Type}[DecidableEq α](xs:VB (α×β))(k k':α)(v:β):dR (iW xs k v) k'=if k'=k then some v else dR xs k':=(DR xs k k' v).1
def pX(l:VB I2)(i:Nat):VA (Int⊕VC):=if nx l i∈l.take i then some (.inl (i:Int)) else none
section
variable{l:VB I2}(n:Nat)
def F4(hn:l.length<n)(hl:l.length<1000):bK (Aj n l) n 0=some (cj (mq l) (.inr ()) l.length 0):=by
 refine dx (len:=l.length) (fun i hi=>?_) ?_ l.length 0 n (by omega) hn
 unfold Aj mq
 dsimp only
 rw[aH (by omega),aA hi,bc,lG hi,ai]
 dsimp only
 rw[NT,ai,av (by omega)]
 by_cases h:Fa (nx l i)
 rw[aH h,R7 h]
 rw[aD h,R5 h]
 unfold Aj
 dsimp only
 rw[aD (by omega)]
def Pu(l:VB I2)(m:VB (I2×Bool)):Prop:=∀p,(dR m p).getD false=decide (p∈l)
def tO(m:VB (I2×Bool))(k p:I2):(dR (iW m k true) p)=if p=k then some true else dR m p:=qx m k p true
def GM(hn:l.length<n)(hl:l.length<1000):bK (ra n l) n ([],0)=some (cj (pX l) (.inr ()) l.length 0):=by
 have key:∀(k i:Nat) (m:VB (I2×Bool)) (f:Nat),i+k=l.length->k<f->Pu (l.take i) m->bK (ra n l) f (m,(i:Int))=some (cj (pX l) (.inr ()) k i):=by
  intro k
  induction k with
  | zero =>
   intro i m f h hf hm;obtain⟨f,rfl⟩:∃g,f=g+1:=⟨f-1,by omega⟩
   have:ra n l (m,(i:Int))=some (.inr (.inr ())):=by
    unfold ra
    dsimp only
    rw[aD (by omega)]
   simp only[bK,this,cj]
  | succ k ih =>
   intro i m f h hf hm;obtain⟨f,rfl⟩:∃g,f=g+1:=⟨f-1,by omega⟩
   have hi:i<l.length:=by omega
   have hB:ra n l (m,(i:Int))=if nx l i∈l.take i then some (.inr (.inl (i:Int))) else some (.inl (iW m (nx l i) true,((i+1:Nat):Int))):=by
    unfold ra
    dsimp only
    rw[aH (by omega),aA hi,bc,lG hi,ai]
    dsimp only
    rw[ai,av (by omega)]
    have e:=hm (nx l i);rw[show((nx l i).1,(nx l i).2)=nx l i from rfl,e]
    by_cases g:nx l i∈l.take i
    rw[aH g,R7 g]
    rw[aD g,R5 g]
   by_cases g:nx l i∈l.take i
   rw[R7 g] at hB;simp only[bK,hB,cj,pX,R7 g]
   rw[R5 g] at hB;simp only[bK,hB,cj,pX,R5 g];refine ih (i+1) _ f (by omega) (by omega) fun p=>?_
   have e:l.take (i+1)=l.take i++[nx l i]:=by
    rw[T9,R6 hi]
    congr 1
    unfold nx;rw[TO hi,Sc,R6 hi]; rfl
   rw[tO,e]
   by_cases hp:p=nx l i
   rw[R7 hp,hp]; simp
   rw[R5 hp,hm p,decide_eq_decide]; simp[hp]
 exact key l.length 0 [] n (by omega) hn (by intro p; simp[dR,cN])
end
def GI(n:Nat)(o:VB Int)(h:Uv)(hl:h.length<=1000)(hn:1000<n):bK (p7 n [[o],h]) n (0,0)=some (((h.length+1:Nat):Int)):=by
 obtain⟨m,rfl⟩:∃m,n=m+3:=⟨n-3,by omega⟩
 have e0:p7 (m+3) [[o],h] (0,0)=some (.inl (1,1)):=by
  unfold p7
  try dsimp only
  rw[aH (by simp),show cz 0 ([[o],h]:VB (Uv)).length=true from rfl,bc]
  show ob (some [o]) _=_
  rw[ai,List.length_singleton]
  rfl
 have e1:p7 (m+3) [[o],h] (1,1)=some (.inl (((h.length+1:Nat):Int),2)):=by
  unfold p7
  try dsimp only
  rw[aH (by simp),show cz 1 ([[o],h]:VB (Uv)).length=true from rfl,bc]
  show ob (some h) _=_
  rw[ai,aF (by omega) (by omega),aD (by omega),show UE (1+1)=2 from rfl,show((1:Int)+(h.length:Int))=((h.length+1:Nat):Int) by omega]
 have e2:p7 (m+3) [[o],h] (((h.length+1:Nat):Int),2)=some (.inr ((h.length+1:Nat):Int)):=by
  unfold p7
  try dsimp only
  rw[aD (by simp)]
 simp only[bK,e0,e1,e2]
def IK(n:Nat)(o:VB Int)(h:Uv)(hl:h.length<=1000)(hn:1000<n):bK (pI n [[o],h]) n ([],0)=some (o::h):=by
 obtain⟨m,rfl⟩:∃m,n=m+3:=⟨n-3,by omega⟩
 have e0:pI (m+3) [[o],h] ([],0)=some (.inl ([o],1)):=by
  unfold pI
  try dsimp only
  rw[aH (by simp),show cz 0 ([[o],h]:VB (Uv)).length=true from rfl,bc]
  show ob (some [o]) _=_
  rw[ai,Ty,bw (by simp),bc]
  rfl
 have e1:pI (m+3) [[o],h] ([o],1)=some (.inl (o::h,2)):=by
  unfold pI
  try dsimp only
  rw[aH (by simp),show cz 1 ([[o],h]:VB (Uv)).length=true from rfl,bc]
  show ob (some h) _=_
  rw[ai,List.singleton_append,bw (by simp; omega),bc]
  rfl
 have e2:pI (m+3) [[o],h] (o::h,2)=some (.inr (o::h)):=by
  unfold pI
  try dsimp only
  rw[aD (by simp)]
 simp only[bK,e0,e1,e2]
def wL(n:Nat)(o:VB Int)(h:Uv)(hl:h.length<=1000)(hn:1000<n):Bq n o h=some (o::h):=by
 unfold Bq Qn;rw[GI n o h hl hn,ai,aD (by omega)]
 have ew:UE (((h.length+1:Nat):Int)-(UE (0-0)))=((h.length+1:Nat):Int):=by
  rw[show UE (0-0)=0 from rfl,aF (by omega) (by omega)]; omega
 rw[ew,aH (by omega),fM (by omega),SG,bw (by omega),bc]
 have eb:okB 0 0 (h.length+1)=true:=Sd ⟨Int.le_refl 0,Int.le_refl 0,by omega⟩
 rw[eb,bc,fM (by omega),ai,ai,show UF=0 from rfl,List.take_zero,IK n o h hl hn,ai,ai]
def bM{α:Type}{l:VB α}{i:Nat}{x:α}(h:l[i]? = some x):l[((i:Nat):Int).toNat]? = some x:=by rw[SG]; exact h
def bad{α:Type}(p:α->Bool)(l:VB α)(i:Nat):VA (VC⊕VC):=match l[i]? with|some x=>if p x then none else some (.inl ())|none=>none
def zQ{α:Type}(p:α->Bool)(l:VB α):cj (bad p l) (.inr ()) l.length 0=if l.all p then .inr () else .inl ():=by
 rcases db (f:=bad p l) (e:=.inr ()) l.length 0 with⟨h1,h2⟩|⟨j,_,h2,h3⟩
 rw[h2,R7];rw[Sp];intro x hx;obtain⟨j,hj,e⟩:=SF.1 hx;have:=h1 j (by omega) (by omega)
 unfold bad at this;rw[R6 hj,e] at this;refine R8 fun hc=>?_
 dsimp only at this
 rw[R5 hc] at this; cases this
 unfold bad at h3;rw[R6 (by omega:j<l.length)] at h3
 dsimp only at h3
 by_cases g:p l[j]=true
 rw[R7 g] at h3; cases h3
 rw[R5 g] at h3;rw[R5 (fun h=>g (Sp.1 h _ (Su _)))];exact(Sb h3).symm
def LO(n:Nat){l:VB Int}(h0:0<l.length)(hl:l.length<1000)(hn:l.length<n):∃m,N2 n l=some m/\m∈l/\∀x∈l,m<=x:=by
 have h00:l[0]? = some l[0]:=R6 h0;obtain⟨r,h1,h2⟩:=ga (B:=zb n l) (len:=l.length) (fun i (s:Int)=>(s,(i:Int))) (fun i s=>s∈l/\∀x∈l.take i,s<=x) (fun r=>r∈l/\∀x∈l,r<=x) (fun i s hi hs=>by
  have hx:=R6 hi;refine .inl ⟨mi s l[i],?_,?_,fun x hxm=>?_⟩
  ·unfold zb
   try dsimp only
   rw[aH (by omega),aA hi,bc,bM hx,ai,av (by omega)]
  rw[iE];rcases Int.le_total s l[i] with h|h
  rw[Int.min_eq_left h]; exact hs.1
  rw[Int.min_eq_right h]; exact Su _
  rw[T9,hx,St] at hxm;rw[iE];rcases hxm with h|h
  have:=hs.2 x h; omega
  simp at h; omega) (fun s hs=>by
  rw[List.take_length] at hs;refine⟨s,?_,hs⟩;unfold zb
  try dsimp only
  rw[aD (by omega)]) (l.length-1) 1 l[0] n (by omega) (by omega) ⟨Su _,fun x hx=>by
   rw[T9,h00] at hx;simp at hx; omega⟩
 refine⟨r,?_,h2⟩;unfold N2;rw[aD (by omega),show cz 0 l.length=true from Sd ⟨by omega,by omega⟩,bc,show UF=0 from rfl,h00,ai,show((l[0],1):Int×Int)=(l[0],((1:Nat):Int)) from rfl,h1,ai]
def LN(n:Nat){l:VB Int}(h0:0<l.length)(hl:l.length<1000)(hn:l.length<n):∃m,DW n l=some m/\m∈l/\∀x∈l,x<=m:=by
 have h00:l[0]? = some l[0]:=R6 h0;obtain⟨r,h1,h2⟩:=ga (B:=yY n l) (len:=l.length) (fun i (s:Int)=>(s,(i:Int))) (fun i s=>s∈l/\∀x∈l.take i,x<=s) (fun r=>r∈l/\∀x∈l,x<=r) (fun i s hi hs=>by
  have hx:=R6 hi;refine .inl ⟨ma s l[i],?_,?_,fun x hxm=>?_⟩
  ·unfold yY
   try dsimp only
   rw[aH (by omega),aA hi,bc,bM hx,ai,av (by omega)]
  rw[ji];rcases Int.le_total s l[i] with h|h
  rw[Int.max_eq_right h]; exact Su _
  rw[Int.max_eq_left h]; exact hs.1
  rw[T9,hx,St] at hxm;rw[ji];rcases hxm with h|h
  have:=hs.2 x h; omega
  simp at h; omega) (fun s hs=>by
  rw[List.take_length] at hs;refine⟨s,?_,hs⟩;unfold yY
  try dsimp only
  rw[aD (by omega)]) (l.length-1) 1 l[0] n (by omega) (by omega) ⟨Su _,fun x hx=>by
   rw[T9,h00] at hx;simp at hx; omega⟩
 refine⟨r,?_,h2⟩;unfold DW;rw[aD (by omega),show cz 0 l.length=true from Sd ⟨by omega,by omega⟩,bc,show UF=0 from rfl,h00,ai,show((l[0],1):Int×Int)=(l[0],((1:Nat):Int)) from rfl,h1,ai]
def vu(m:Nat)(l:VB Int):Bool:=decide (3<=l.length/\l.length<=40/\∀i∈l,0<=i/\i<m)
section
variable{pts:VB I2}(n:Nat)
def Hr{rs:Uv}(hr:rs.length<1000)(hn:1000<n):bK (zS n rs pts) n 0=some (if rs.all (vu pts.length) then .inr () else .inl ()):=by
 rw[<-zQ];refine dx (len:=rs.length) (fun i hi=>?_) ?_ rs.length 0 n (by omega) (by omega)
 ·have hx:=R6 hi;generalize rs[i]=l at hx;unfold zS bad;rw[hx]
  try dsimp only
  rw[aH (by omega),aA hi,bc,bM hx,ai,av (by omega)]
  have key:(br (decide ((l.length:Int)<3)) (some true) (br (decide (40<(l.length:Int))) (some true) (ob (N2 n l) fun r0=>br (decide (r0<0)) (some true) (ob (DW n l) fun r1=>some (decide ((pts.length:Int)<=r1))))))=some (!vu pts.length l):=by
   by_cases h0:(l.length:Int)<3
   rw[aH h0];unfold vu;rw[Sm (by omega)]; rfl
   rw[aD h0]
   by_cases h1:40<(l.length:Int)
   rw[aH h1];unfold vu;rw[Sm (by omega)]; rfl
   rw[aD h1];obtain⟨a,e0,e2,e1⟩:=LO n (l:=l) (by omega) (by omega) (by omega)
   obtain⟨b,f0,f1,f3⟩:=LN n (l:=l) (by omega) (by omega) (by omega)
   rw[e0,ai]
   by_cases h2:a<0
   rw[aH h2];unfold vu;rw[Sm (fun h=>by have:=h.2.2 a e2; omega)]; rfl
   rw[aD h2,f0,ai];unfold vu;rw[<-decide_not];refine SH some (decide_eq_decide.2 ⟨fun h g=>by have:=g.2.2 b f1; omega,fun h=>?_⟩)
   refine R8 fun hc=>h ⟨by omega,by omega,fun x hx=>?_⟩
   have:=e1 x hx;have:=f3 x hx;omega
  rw[key,ai];cases vu pts.length l
  rw[show(!false)=true from rfl,lN]; rfl
  rw[show(!true)=false from rfl,jl]; rfl
 ·unfold zS
  try dsimp only
  rw[aD (by omega)]
end
abbrev Fc:=VB Int×Uv
def jv(p:Fc->Bool)(F:VB Fc)(i:Nat):VA (Int⊕VC):=match F[i]? with|some x=>if p x then none else some (.inl (i:Int))|none=>none
def okF(m:Nat)(f:Fc):Bool:=decide (f.2.length<=8) &&(f.1::f.2).all (vu m)
noncomputable instance (l:VB I2):Decidable (xC l):=by unfold xC; infer_instance
noncomputable def PM (pts:VB I2) (f:Fc):Bool:=(f.1::f.2).all fun r=>decide (xC (dG pts r 1))
section
variable{pts:VB I2}{F:VB Fc}(n:Nat)
def Hc(hF:F.length<1000)(hn:1000<n):bK (y9 n F pts) n 0=some (cj (jv (okF pts.length) F) (.inr ()) F.length 0):=by
 refine dx (len:=F.length) (fun i hi=>?_) ?_ F.length 0 n (by omega) (by omega)
 ·have hx:=R6 hi;generalize F[i]=f at hx;obtain⟨o,h⟩:=f;unfold y9 jv okF;rw[hx]
  try dsimp only
  rw[aH (by omega),aA hi,bc,bM hx,ai]
  try dsimp only
  by_cases g:8<(h.length:Int)
  rw[aH g,ai,lN,Sm (by omega)]; rfl
  rw[aD g,Sd (by omega),wL n _ _ (by omega) hn,ai,Hr n (by simp; omega) hn,ai,TL,av (by omega)]
  cases(o::h).all (vu pts.length)<;>rfl
 ·unfold y9
  try dsimp only
  rw[aD (by omega)]
def Qq(pts:VB I2)(F:VB Fc):Prop:=∀f∈F,okF pts.length f=true
def kh{m:Nat}{pts:VB I2}(e:m=pts.length){r:VB Int}(h:vu m r=true):Ix pts r/\3<=r.length/\r.length<=40:=by
 have:=of_decide_eq_true h;subst e;exact⟨this.2.2,this.1,this.2.1⟩
def ET(hb:ig pts){r:VB Int}(hx:Ix pts r):∀q∈dG pts r 1,Nr q:=by
 intro q hq;obtain⟨i,hi,rfl⟩:=Sy.1 hq;have:=ja hb (hx i hi)
 simpa using this
def IV(hb:ig pts){rs:Uv}(hr:rs.length<1000)(ho:∀r∈rs,vu pts.length r=true)(hn:1000<n):bK (zv n rs pts F) n 0=some (if rs.all (fun r=>decide (xC (dG pts r 1))) then .inr () else .inl ()):=by
 rw[<-zQ];refine dx (len:=rs.length) (fun i hi=>?_) ?_ rs.length 0 n (by omega) (by omega)
 ·have hx:=R6 hi;generalize rs[i]=r at hx;obtain⟨hix,h3,h4⟩:=kh rfl (ho r (SA hx));unfold zv bad;rw[hx]
  try dsimp only
  rw[aH (by omega),aA hi,bc,bM hx,ai,ug n hb hix (.inl rfl) (by omega) (by omega),ai,MD n (fun x hx=>by
   have:=ET hb hix x hx;unfold Nr at this; unfold pY; omega) (by rw[dZ]; omega) (by omega),ai,av (by omega)]
  by_cases g:xC (dG pts r 1)
  simp only[R7 g,decide_true,S0,ai,jl,if_true,Sd g]
  simp only[R5 g,Sm g]; rfl
 ·unfold zv
  try dsimp only
  rw[aD (by omega)]
def p8{f:Fc}(h:okF pts.length f=true):f.2.length<=8/\∀r∈f.1::f.2,vu pts.length r=true:=by
 unfold okF at h;rw[R9] at h;exact⟨of_decide_eq_true h.1,Sp.1 h.2⟩
def Hk(hb:ig pts)(ho:Qq pts F)(hF:F.length<1000)(hn:1000<n):bK (zB n F pts) n 0=some (cj (jv (PM pts) F) (.inr ()) F.length 0):=by
 refine dx (len:=F.length) (fun i hi=>?_) ?_ F.length 0 n (by omega) (by omega)
 ·have hx:=R6 hi;generalize F[i]=f at hx;obtain⟨h8,h9⟩:=p8 (ho f (SA hx));obtain⟨o,h⟩:=f;replace h8:h.length<=8:=h8;unfold zB jv PM;rw[hx]
  try dsimp only
  rw[aH (by omega),aA hi,bc,bM hx,ai]
  try dsimp only
  rw[wL n _ _ (by omega) hn,ai,IV n hb (by simp; omega) h9 hn,av (by omega)]
  cases(o::h).all (fun r=>decide (xC (dG pts r 1)))<;>rfl
 ·unfold zB
  try dsimp only
  rw[aD (by omega)]
end
def py(pts:VB I2)(rs:Uv)(i:Nat):VA (VC⊕VC):=match rs[i]? with|some r=>if decide (i=0)==decide (0<eE (dG pts r 1)) then none else some (.inl ())|none=>none
def N9(pts:VB I2)(f:Fc):Bool:=match cj (py pts (f.1::f.2)) (.inr ()) (f.1::f.2).length 0 with|.inl _=>false|.inr _=>true
section
variable{pts:VB I2}{F:VB Fc}(n:Nat)
def xX(hb:ig pts){r:VB Int}(hx:Ix pts r)(h3:3<=r.length)(i:Nat):Nr (nx (dG pts r 1) i) :=
 A5 (P:=Nr) (by rw[dZ]; omega) (fun i hi=>by
  refine ET hb hx _ ?_;unfold nx;rw[TO hi,Sc,R6 hi];exact Su _) i
def Hi(hb:ig pts){rs:Uv}(hr:rs.length<1000)(ho:∀r∈rs,vu pts.length r=true)(ha:∀r∈rs,eE (dG pts r 1)≠0)(hn:1000<n):bK (yG n rs pts F) n 0=some (cj (py pts rs) (.inr ()) rs.length 0):=by
 refine dx (len:=rs.length) (fun i hi=>?_) ?_ rs.length 0 n (by omega) (by omega)
 ·have hx:=R6 hi;generalize rs[i]=r at hx;obtain⟨hix,h3,h4⟩:=kh rfl (ho r (SA hx));have hne:=ha r (SA hx);unfold yG py;rw[hx]
  try dsimp only
  rw[aH (by omega),aA hi,bc,bM hx,ai,ug n hb hix (.inl rfl) (by omega) (by omega),ai,FC n (xX hb hix h3) (by rw[dZ]; omega) (by rw[dZ]; omega),ai,ai,av (by omega)]
  by_cases g:i=0
  subst g
  by_cases h:eE (dG pts r 1)<0
  rw[Sd h,Sm (show ¬0<eE (dG pts r 1) by omega)]; rfl
  rw[Sm h,Sd (show 0<eE (dG pts r 1) by omega)]; rfl
  rw[Sm g,Sm (show ¬(i:Int)=0 by omega)]
  by_cases h:eE (dG pts r 1)<0
  rw[Sd h,Sm (show ¬0<eE (dG pts r 1) by omega)]; rfl
  rw[Sm h,Sd (show 0<eE (dG pts r 1) by omega)]; rfl
 ·unfold yG
  try dsimp only
  rw[aD (by omega)]
def GO(hb:ig pts)(ho:Qq pts F)(ha:∀f∈F,∀r∈f.1::f.2,eE (dG pts r 1)≠0)(hF:F.length<1000)(hn:1000<n):bK (zn n F pts) n 0=some (cj (jv (N9 pts) F) (.inr ()) F.length 0):=by
 refine dx (len:=F.length) (fun i hi=>?_) ?_ F.length 0 n (by omega) (by omega)
 ·have hx:=R6 hi;generalize F[i]=f at hx;obtain⟨h8,h9⟩:=p8 (ho f (SA hx));have h10:=ha f (SA hx);obtain⟨o,h⟩:=f;replace h8:h.length<=8:=h8;unfold zn jv N9;rw[hx]
  try dsimp only
  rw[aH (by omega),aA hi,bc,bM hx,ai]
  try dsimp only
  rw[wL n _ _ (by omega) hn,ai,Hi n hb (by simp; omega) h9 h10 hn,av (by omega)]
  cases cj (py pts (o::h)) (.inr ()) (o::h).length 0<;>rfl
 ·unfold zn
  try dsimp only
  rw[aD (by omega)]
end
end Go.Proofs.Ytmndpgfbkicndaa
end
section
namespace Jd
section
variable{n:Nat}{v:Nat->P2}
def Simple.JC(S:Simple n v){L:Int}(hL:∀i,i<n->HS n v 1 i L/\HS n v (-1) i (L-1)){p:P2}(hp:∀i,i<n->(v i).2≠p.2):W n v p=0\/W n v p=2*L-1/\(L=0\/L=1):=by
 have hn3:=S.n3;have hp':∀i,i<n->(v (i+1)).2≠p.2:=fun i hi=>by
  by_cases e:i+1=n
  rw[e,S.cl]; exact hp 0 (by omega)
  exact hp (i+1) (by omega)
 have hX:∀i,∃X:Rat,i<n->(∀q:P2,q.2=p.2->we (v i) (v (i+1)) q=if q.1<X then dd (v i) (v (i+1)) p.2 else 0)/\(dd (v i) (v (i+1)) p.2≠0->∃t,0<t/\t<1/\cv (v i) (v (i+1)) t=(X,p.2)):=fun i=>by
  by_cases hi:i<n
  obtain⟨X,h⟩:=yA (hp i hi) (hp' i hi);exact⟨X,fun _=>h⟩
  exact⟨0,fun h=>Sw h hi⟩
 obtain⟨X,hX⟩:=Classical.axiomOfChoice hX;have hW:∀q:P2,q.2=p.2->W n v q=aZ n fun i=>if q.1<X i then dd (v i) (v (i+1)) p.2 else 0:=fun q hq=>aE fun i hi=>(hX i hi).1 q hq
 by_cases hE:∃i,i<n/\(dd (v i) (v (i+1)) p.2≠0/\p.1<X i)
 obtain⟨i,i1,⟨i2,i3⟩,i4⟩:=oQ (X:=X) hE;obtain⟨k,k1,⟨k2,k3⟩,k4⟩:=oQ (X:=fun i=>-X i) hE;have hl:W n v p=L\/W n v p=L-1:=by
  obtain⟨t,t0,t1,t2⟩:=(hX i i1).2 i2;have key:∀σ M,0 < σ*cr (v i) (v (i+1)) (-1,0)->HS n v σ i M->W n v p=M:=by
   intro σ M hσ hM;obtain⟨e,e0,he⟩:=hM t (-1,0) t0 t1 hσ;obtain⟨x,x0,xe,xp⟩:=gi e0 (show 0<X i-p.1 by grind)
   rw[<-he x x0 (by grind),t2,hW p rfl,hW (sm (X i,p.2) (-1,0) x) (by unfold sm; grind)]
   refine aE fun j hj=>?_
   by_cases hd:dd (v j) (v (j+1)) p.2=0
   rw[hd,ite_self,ite_self]
   by_cases hx:p.1<X j
   have:=i4 j hj ⟨hd,hx⟩;rw[R7 hx,R7 (by unfold sm; grind)]
   rw[R5 hx,R5 (by unfold sm; grind)]
  by_cases h1:(v i).2<p.2/\p.2<(v (i+1)).2
  exact .inl (key 1 L (by unfold cr; grind) (hL i i1).1)
  have h2:(v (i+1)).2<p.2/\p.2<(v i).2:=by
   unfold dd at i2;rw[R5 h1] at i2;exact R8 fun h=>i2 (R5 h)
  exact .inr (key (-1) (L-1) (by unfold cr; grind) (hL i i1).2)
 have hr:L=0\/L=1:=by
  obtain⟨t,t0,t1,t2⟩:=(hX k k1).2 k2;have key:∀σ M,0 < σ*cr (v k) (v (k+1)) (1,0)->HS n v σ k M->M=0:=by
   intro σ M hσ hM;obtain⟨e,e0,he⟩:=hM t (1,0) t0 t1 hσ;rw[<-he e e0 (by grind),t2,hW (sm (X k,p.2) (1,0) e) (by unfold sm; grind)]
   refine bR fun j hj=>?_
   by_cases hd:dd (v j) (v (j+1)) p.2=0
   rw[hd,ite_self]
   refine R5 fun hx=>?_;have hx':X k+e<X j:=by unfold sm at hx; grind
   have:=k4 j hj ⟨hd,by grind⟩
   grind
  by_cases h1:(v k).2<p.2/\p.2<(v (k+1)).2
  have:=key (-1) (L-1) (by unfold cr; grind) (hL k k1).2
  exact .inr (by omega)
  have h2:(v (k+1)).2<p.2/\p.2<(v k).2:=by
   unfold dd at k2;rw[R5 h1] at k2;exact R8 fun h=>k2 (R5 h)
  exact .inl (key 1 L (by unfold cr; grind) (hL k k1).1)
 omega
 left
 rw[hW p rfl];refine bR fun j hj=>?_
 by_cases hd:dd (v j) (v (j+1)) p.2=0
 rw[hd,ite_self]
 exact R5 fun hx=>hE ⟨j,hj,hd,hx⟩
def Simple.Gt(S:Simple n v){L:Int}(hL:∀i,i<n->HS n v 1 i L/\HS n v (-1) i (L-1)){p:P2}(hp:∀i,i<n->((v i).2<=p.2/\p.2<(v (i+1)).2)\/((v (i+1)).2<=p.2/\p.2<(v i).2)->tn (v i) (v (i+1)) p≠0) :
  W n v p=0\/W n v p=2*L-1/\(L=0\/L=1):=by
 have hn3:=S.n3;have h1:Ev fun x _=>∀i,i<n->(v i).2<=p.2\/p.2+x<(v i).2:=Ev.all (P:=fun i x _=>(v i).2<=p.2\/p.2+x<(v i).2) fun i _=>by
  by_cases h:(v i).2<=p.2
  exact Ev.of fun _ _ _ _=>.inl h
  exact⟨((v i).2-p.2)/2,by grind,fun x y x0 x1 _ _=>.inr (by grind)⟩
 have h2:Ev fun x _=>∀i,i<n->(tn (v i) (v (i+1)) p<0->tn (v i) (v (i+1)) (p.1,p.2+x)<0)/\(0<tn (v i) (v (i+1)) p->0<tn (v i) (v (i+1)) (p.1,p.2+x)) :=
  Ev.all (P:=fun i x _=>(tn (v i) (v (i+1)) p<0->tn (v i) (v (i+1)) (p.1,p.2+x)<0)/\(0<tn (v i) (v (i+1)) p->0<tn (v i) (v (i+1)) (p.1,p.2+x))) fun i _=>by
   have e:∀x,tn (v i) (v (i+1)) (p.1,p.2+x)=tn (v i) (v (i+1)) p+x*((v (i+1)).1-(v i).1):=fun x=>by unfold tn; grind
   by_cases hm:tn (v i) (v (i+1)) p<0
   obtain⟨a,a0,ha⟩:=xy hm ((v (i+1)).1-(v i).1);exact⟨a,a0,fun x y x0 x1 _ _=>⟨fun _=>by rw[e]; exact ha x x0 x1,fun h=>by grind⟩⟩
   by_cases hq:0<tn (v i) (v (i+1)) p
   obtain⟨a,a0,ha⟩:=xy (A:=-tn (v i) (v (i+1)) p) (by grind) (-((v (i+1)).1-(v i).1))
   exact⟨a,a0,fun x y x0 x1 _ _=>⟨fun h=>Sw h hm,fun _=>by rw[e]; have:=ha x x0 x1; grind⟩⟩
   exact Ev.of fun _ _ _ _=>⟨fun h=>Sw h hm,fun h=>Sw h hq⟩
 obtain⟨x,x0,hx⟩:=h1.and h2;obtain⟨g1,g2⟩:=hx x x x0 (by grind) x0 (by grind)
 have g1':∀i,i<n->(v (i+1)).2<=p.2\/p.2+x<(v (i+1)).2:=fun i hi=>by
  by_cases e:i+1=n
  rw[e,S.cl]; exact g1 0 (by omega)
  exact g1 (i+1) (by omega)
 have e:W n v p=W n v (p.1,p.2+x):=aE fun i hi=>by
  have a:=g1 i hi;have b:=g1' i hi;obtain⟨c1,c2⟩:=g2 i hi;have hc:=hp i hi
  by_cases k1:(v i).2<=p.2/\p.2<(v (i+1)).2
  rw[jM k1.1 k1.2,jM (by grind) (by grind)]
  exact nu ⟨c2,fun h=>by have:=hc (.inl k1); grind⟩
  by_cases k2:(v (i+1)).2<=p.2/\p.2<(v i).2
  rw[lj (v (i+1)) (v i),lj (v (i+1)) (v i),jM k2.1 k2.2,jM (by grind) (by grind),jT (v i),jT (v i)]
  rw[nu (d:=0 < -tn (v i) (v (i+1)) (p.1,p.2+x)) ⟨fun h=>by have:=c1 (by grind); grind,fun h=>by have:=hc (.inr k2); grind⟩]
  rw[eX k1 k2,eX (by grind) (by grind)]
 rw[e];exact S.JC hL fun i hi=>by have:=g1 i hi; grind
def Simple.sign(S:Simple n v):∃s:Int,(s=1\/s = -1)/\∀p:P2,(∀i,i<n->((v i).2<=p.2/\p.2<(v (i+1)).2)\/((v (i+1)).2<=p.2/\p.2<(v i).2)->tn (v i) (v (i+1)) p≠0)->W n v p=0\/W n v p=s:=by
 obtain⟨L,hL⟩:=S.along
 by_cases h:L=0\/L=1
 exact⟨2*L-1,by omega,fun p hp=>(S.Gt hL hp).imp_right And.left⟩
 exact⟨1,.inl rfl,fun p hp=>.inl ((S.Gt hL hp).resolve_right fun g=>h g.2)⟩
end
def om(a:I2):I2:=(-a.1,-a.2)
def wj(a b p:I2):Int:=if a.2<p.2/\p.2<=b.2/\ti a b p<0 then -1 else if b.2<p.2/\p.2<=a.2/\0<ti a b p then 1 else 0
def up(p v:I2):Int:=if p.2<v.2\/(v.2=p.2/\v.1<p.1) then 1 else 0
def eK(r:VB I2)(p:I2):Int:=aZ r.length fun i=>wj (nx r i) (nx r (i+1)) p
def tI{a b p:I2}(h:a.2=p.2):ti a b p=(b.2-a.2)*(a.1-p.1):=by unfold ti; grind
def vA{a b p:I2}(h:b.2=p.2):ti a b p=(b.2-a.2)*(b.1-p.1):=by unfold ti; grind
def js{k x:Int}(h:0<k):(0<k*x↔0<x)/\(k*x<0↔x<0):=⟨iP h,eU h⟩
def tL{k x:Int}(h:k<0):(0<k*x↔x<0)/\(k*x<0↔0<x):=by
 have e:k*x = -((-k)*x):=by grind
 have:=js (x:=x) (show 0 < -k by omega)
 rw[e]; omega
def wG{a b p:I2}(h:ti a b p=0):wi a b p=0:=by unfold wi; rw[UG,UG]
def C3{a b p:I2}(h:ti a b p=0):wj a b p=0:=by unfold wj; rw[UG,UG]
def Qw{a b p:I2}(h:¬cC a b p):wi a b p-wj a b p=up p b-up p a:=by
 by_cases ha:a.2=p.2
 by_cases hb:b.2=p.2
 have h0:ti a b p=0:=by rw[tI ha,hb,ha]; simp
 rw[wG h0,C3 h0];have:¬(min a.1 b.1<=p.1/\p.1<=max a.1 b.1):=fun g=>h ⟨h0,g.1,g.2,by omega,by omega⟩
 unfold up
 by_cases g:a.1<p.1
 rw[R7 (.inr ⟨hb,by omega⟩),R7 (.inr ⟨ha,g⟩)]<;>rfl
 rw[UG,UG]<;>rfl
 have ht:=tI (b:=b) ha;have hne:a.1≠p.1:=fun e=>h (by rw[show p=a from SO e.symm ha.symm]; exact oD a b)
 by_cases hb':p.2<b.2
 have s:=js (k:=b.2-a.2) (x:=a.1-p.1) (by omega)
 rw[<-ht] at s;unfold wi wj up
 by_cases g:a.1<p.1
 rw[UG,UG,UG,UG,UH,UH]<;>rfl
 rw[UH,UG,UG,UH,UG]<;>rfl
 have s:=tL (k:=b.2-a.2) (x:=a.1-p.1) (by omega)
 rw[<-ht] at s;unfold wi wj up
 by_cases g:a.1<p.1
 rw[UG,UG,UG,UH,UG,UH]<;>rfl
 rw[UG,UG,UG,UG,UG,UG]<;>rfl
 by_cases hb:b.2=p.2
 have ht:=vA (a:=a) hb;have hne:b.1≠p.1:=fun e=>h (by rw[show p=b from SO e.symm hb.symm]; exact oe a b)
 by_cases ha':p.2<a.2
 have s:=tL (k:=b.2-a.2) (x:=b.1-p.1) (by omega)
 rw[<-ht] at s;unfold wi wj up
 by_cases g:b.1<p.1
 rw[UG,UG,UG,UG,UH,UH]<;>rfl
 rw[UG,UH,UG,UG,UG,UH]<;>rfl
 have s:=js (k:=b.2-a.2) (x:=b.1-p.1) (by omega)
 rw[<-ht] at s;unfold wi wj up
 by_cases g:b.1<p.1
 rw[UG,UG,UH,UH,UG]<;>rfl
 rw[UG,UG,UG,UG,UG,UG]<;>rfl
 by_cases ha':p.2<a.2
 by_cases hb':p.2<b.2
 unfold wi wj up;rw[UG,UG,UG,UG,UH,UH]<;>rfl
 have h0:ti a b p≠0:=fun h0=>h (gP (.inr ⟨by omega,by omega⟩) h0)
 unfold wi wj up
 by_cases g:ti a b p<0
 rw[UG,UH,UG,UG,UG,UH]<;>rfl
 rw[UG,UG,UG,UH,UG,UH]<;>rfl
 by_cases hb':p.2<b.2
 have h0:ti a b p≠0:=fun h0=>h (gP (.inl ⟨by omega,by omega⟩) h0)
 unfold wi wj up
 by_cases g:ti a b p<0
 rw[UG,UG,UH,UH,UG]<;>rfl
 rw[UH,UG,UG,UH,UG]<;>rfl
 unfold wi wj up;rw[UG,UG,UG,UG,UG,UG]<;>rfl
instance(a b p:I2):Decidable (cC a b p):=by unfold cC; infer_instance
def MF(a b p:I2):Int:=if cC a b p then up p b-up p a else 0
def Gm(a b p:I2):wi a b p-wj a b p+MF a b p=up p b-up p a:=by
 unfold MF
 by_cases h:cC a b p
 rw[R7 h,wG h.1,C3 h.1]; omega
 rw[R5 h,<-Qw h]; omega
def CL(r:VB I2)(p:I2):cL r p-eK r p+aZ r.length (fun i=>MF (nx r i) (nx r (i+1)) p)=0:=by
 have h1:=kH r.length fun i=>up p (nx r i);rw[lC,Int.sub_self] at h1;have h2:=jC r.length (fun i=>wi (nx r i) (nx r (i+1)) p-wj (nx r i) (nx r (i+1)) p) fun i=>MF (nx r i) (nx r (i+1)) p;rw[fU] at h2;unfold cL eK;rw[<-h2,<-h1];exact aE fun i _=>Gm _ _ _
def AH{r:VB I2}{p:I2}(hp:∀i,i<r.length->¬cC (nx r i) (nx r (i+1)) p):eK r p=cL r p:=by
 have h:=CL r p;rw[bR (fun i hi=>by unfold MF; rw[R5 (hp i hi)])] at h
 omega
def B3(a b p:I2):ti (om a) (om b) (om p)=ti a b p:=by unfold ti om; grind
def BK(a b p:I2):wi (om a) (om b) (om p)=wj a b p:=by
 unfold wi wj;rw[B3];unfold om
 dsimp only
 by_cases h1:a.2<p.2/\p.2<=b.2/\ti a b p<0
 rw[UG,UH,R7 h1]
 rw[R5 h1]
 by_cases h2:b.2<p.2/\p.2<=a.2/\0<ti a b p
 rw[UH,R7 h2]
 rw[UG,UG,R5 h2]
def mn{r:VB I2}(h:r≠[])(p:I2):cL (r.map om) (om p)=eK r p:=by
 unfold cL eK;rw[Si];exact aE fun i _=>by rw[bf _ h,bf _ h,BK]
def xh{a b c:I2}:cC (om a) (om b) (om c)↔cC a b c:=by
 unfold cC;rw[B3];unfold om
 dsimp only
 omega
def kC{N:Int}{t:Rat}(hN:0<N)(ht:(N:Rat)*t=1)(a q:Int):((a:Rat)<=(q:Rat)*t↔a*N<=q)/\((q:Rat)*t<(a:Rat)↔q<a*N):=by
 have hN':(0:Rat)<(N:Rat):=eB.2 hN;have t0:0<t:=by
  refine R8 fun h=>?_;have:=dc (show 0<=(N:Rat) by grind) (show t<=0 by grind)
  grind
 have key:(a:Rat)<=(q:Rat)*t↔a*N<=q:=by
  rw[<-Bl,Tx];constructor
  intro h;have:=bV (show 0<=(q:Rat)*t-a by grind) (show 0<=(N:Rat) by grind)
  rw[show((q:Rat)*t-a)*N=q*(N*t)-a*N by grind,ht,Rat.mul_one] at this
  grind
  intro h;have:=bV (show 0<=(q:Rat)-a*N by grind) (show 0<=t by grind)
  rw[show((q:Rat)-a*N)*t=q*t-a*(N*t) by grind,ht,Rat.mul_one] at this
  grind
 refine⟨key,?_⟩;constructor
 intro h;have:=mt key.2 (by grind)
 omega
 intro h;have:=mt key.1 (by omega)
 grind
def sT{N:Int}{t:Rat}(ht:(N:Rat)*t=1)(a b q:I2):tn (ca a) (ca b) ((q.1:Rat)*t,(q.2:Rat)*t)=((ti (bE N a) (bE N b) q:Int):Rat)*(t*t):=by
 rw[<-mD];unfold tn ca bE;simp only[Tx]
 grind
def qn{N:Int}{t:Rat}(hN:0<N)(ht:(N:Rat)*t=1)(x:Int):(0<(x:Rat)*(t*t)↔0<x)/\((x:Rat)*(t*t)<0↔x<0):=by
 have hN':(0:Rat)<(N:Rat):=eB.2 hN;have t0:0<t:=by
  refine R8 fun h=>?_;have:=dc (show 0<=(N:Rat) by grind) (show t<=0 by grind)
  grind
 have tt:=bo t0 t0;have p1:∀y:Int,0<y->0<(y:Rat)*(t*t):=fun y hy=>bo (eB.2 hy) tt;have p2:∀y:Int,y<0->(y:Rat)*(t*t)<0:=fun y hy=>by
  have:=bo (show(0:Rat) < -(y:Rat) by have:=pH.2 hy; grind) tt
  grind
 rcases Int.lt_trichotomy x 0 with g|g|g
 have:=p2 x g;constructor<;>constructor<;>intro k<;>first|omega|grind
 subst g;simp
 have:=p1 x g;constructor<;>constructor<;>intro k<;>first|omega|grind
def rX{N:Int}{t:Rat}(hN:0<N)(ht:(N:Rat)*t=1)(a b q:I2):we (ca a) (ca b) ((q.1:Rat)*t,(q.2:Rat)*t)=wi (bE N a) (bE N b) q:=by
 have sp:=qn hN ht;unfold we wi;rw[sT ht];unfold ca
 dsimp only
 simp only[(kC hN ht _ _).1,(kC hN ht _ _).2,(sp _).1,(sp _).2]
 rfl
def VR.FN{r:VB I2}(h:VR r){s:Int}(hm:∀p:P2,(∀i,i<r.length->((ca (nx r i)).2<=p.2/\p.2<(ca (nx r (i+1))).2)\/((ca (nx r (i+1))).2<=p.2/\p.2<(ca (nx r i)).2)->tn (ca (nx r i)) (ca (nx r (i+1))) p≠0)->W r.length (fun i=>ca (nx r i)) p=0\/W r.length (fun i=>ca (nx r i)) p=s) :
  ∀N:Int,0<N->∀q:I2,(∀i,i<r.length->¬cC (bE N (nx r i)) (bE N (nx r (i+1))) q)->Jd.cL (r.map (bE N)) q=0\/Jd.cL (r.map (bE N)) q=s:=by
 have hr:r≠[]:=fun e=>by have:=h.n3; rw[e] at this; simp at this
 intro N hN q hq;have hN':(0:Rat)<(N:Rat):=eB.2 hN;have ht:(N:Rat)*(N:Rat)⁻¹=1:=Uj _ (by grind)
 generalize(N:Rat)⁻¹=t at ht;have sp:=qn hN ht;have e:W r.length (fun i=>ca (nx r i)) ((q.1:Rat)*t,(q.2:Rat)*t)=Jd.cL (r.map (bE N)) q:=by
  unfold Jd.cL W;rw[Si];refine aE fun i _=>?_;rw[bf _ hr,bf _ hr];exact rX hN ht _ _ _
 rw[<-e];refine hm _ fun i hi hl=>?_
 show tn (ca (nx r i)) (ca (nx r (i+1))) _≠0
 rw[sT ht];intro h0;have hz:=sp (ti (bE N (nx r i)) (bE N (nx r (i+1))) q);have h0':ti (bE N (nx r i)) (bE N (nx r (i+1))) q=0:=by
  have a1:=mt hz.1.2 (by rw[h0]; grind)
  have a2:=mt hz.2.2 (by rw[h0]; grind)
  omega
 refine hq i hi (gP ?_ h0');unfold ca at hl
 dsimp only at hl
 simp only[(kC hN ht _ _).1,(kC hN ht _ _).2] at hl;exact hl
def VR.sign{r:VB I2}(h:VR r):∃s:Int,(s=1\/s = -1)/\∀N:Int,0<N->∀q:I2,(∀i,i<r.length->¬cC (bE N (nx r i)) (bE N (nx r (i+1))) q)->Jd.cL (r.map (bE N)) q=0\/Jd.cL (r.map (bE N)) q=s:=by
 obtain⟨s,hs,hm⟩:=h.simple.sign;exact⟨s,hs,h.FN hm⟩
def De{u w:Int}(h:(0<=w/\w<=u)\/(u<=w/\w<=0)):0<=u*w/\(w≠0->0<u*w):=by
 rcases h with h|h
 exact⟨SN (by omega) h.1,fun h0=>TJ (by omega) (by omega)⟩
 exact⟨TH (by omega) h.2,fun h0=>Int.mul_pos_of_neg_of_neg (by omega) (by omega)⟩
def CY{a v p:I2}(h:cC a v p)(hne:p≠v):(a.1-v.1)*(p.2-v.2)=(a.2-v.2)*(p.1-v.1)/\0<(a.1-v.1)*(p.1-v.1)+(a.2-v.2)*(p.2-v.2):=by
 obtain⟨h0,h1,h2,h3,h4⟩:=h;have e1:=De (u:=a.1-v.1) (w:=p.1-v.1) (by omega)
 have e2:=De (u:=a.2-v.2) (w:=p.2-v.2) (by omega)
 refine⟨by unfold ti at h0; grind,?_⟩
 by_cases g:p.1-v.1=0
 have g2:p.2-v.2≠0:=fun g2=>hne (SO (by omega) (by omega))
 have:=e2.2 g2;omega
 have:=e1.2 g;omega
def xF{a v b p:I2}(h1:cC a v p)(h2:cC v b p)(hne:p≠v):ti a v b=0/\di a v b<0:=by
 obtain⟨e1,d1⟩:=CY h1 hne;obtain⟨e2,d2⟩:=CY h2.swap hne;have hd:=Kx (u:=(a.1-v.1,a.2-v.2)) (v:=(b.1-v.1,b.2-v.2)) (w:=(p.1-v.1,p.2-v.2)) e1 e2 d1 d2
 dsimp only at hd
 refine⟨?_,by unfold di; grind⟩
 have hw:¬(p.1-v.1=0/\p.2-v.2=0):=fun g=>hne (SO (by omega) (by omega))
 have hx:(p.1-v.1)*ti a v b=0:=by unfold ti; grind
 have hy:(p.2-v.2)*ti a v b=0:=by unfold ti; grind
 rcases Tu.1 hx with g|g
 rcases Tu.1 hy with k|k
 exact Sw ⟨g,k⟩ hw
 exact k
 exact g
def Cv{x a b:Int}(h:min a b<=x/\x<=max a b):0<=(b-x)*(b-a)/\0<=(x-a)*(b-a):=by
 rcases Int.le_total a b with g|g
 exact⟨SN (by omega) (by omega),SN (by omega) (by omega)⟩
 exact⟨TH (by omega) (by omega),TH (by omega) (by omega)⟩
def CO{a b p:I2}(hab:a≠b)(h:cC a b p):∃w1 w2 D:Int,0<=w1/\0<=w2/\w1+w2=D/\0<D/\D*p.1=w1*a.1+w2*b.1/\D*p.2=w1*a.2+w2*b.2:=by
 obtain⟨h0,h1,h2,h3,h4⟩:=h;have e1:=Cv ⟨h1,h2⟩;have e2:=Cv ⟨h3,h4⟩;refine⟨(b.1-p.1)*(b.1-a.1)+(b.2-p.2)*(b.2-a.2),(p.1-a.1)*(b.1-a.1)+(p.2-a.2)*(b.2-a.2),(b.1-a.1)*(b.1-a.1)+(b.2-a.2)*(b.2-a.2),by omega,by omega,by grind,?_,?_,?_⟩
 have s1:=@N7 (b.1-a.1);have s2:=@N7 (b.2-a.2);refine R8 fun k=>hab ?_;have g1:=KM (show(b.1-a.1)*(b.1-a.1)=0 by omega)
 have g2:=KM (show(b.2-a.2)*(b.2-a.2)=0 by omega)
 exact SO (by omega) (by omega)
 unfold ti at h0; grind
 unfold ti at h0; grind
def wh{a b p:I2}(hab:a≠b)(h:cC a b p){α β γ:Rat}(ha:0<af α β γ (ca a))(hb:0<af α β γ (ca b)):0<af α β γ (ca p):=by
 obtain⟨w1,w2,D,h1,h2,h3,h4,h5,h6⟩:=CO hab h;have c5:(D:Rat)*(p.1:Rat)=(w1:Rat)*a.1+(w2:Rat)*b.1:=by rw[<-Tx,h5,Um,Tx,Tx]
 have c6:(D:Rat)*(p.2:Rat)=(w1:Rat)*a.2+(w2:Rat)*b.2:=by rw[<-Tx,h6,Um,Tx,Tx]
 have c3:(w1:Rat)+(w2:Rat)=D:=by rw[<-Um,h3]
 have d0:(0:Rat)<D:=eB.2 h4;have n1:(0:Rat)<=w1:=by have:=(Bl (x:=0) (y:=w1)).2 h1; simpa using this
 have n2:(0:Rat)<=w2:=by have:=(Bl (x:=0) (y:=w2)).2 h2; simpa using this
 have e:(D:Rat)*af α β γ (ca p)=w1*af α β γ (ca a)+w2*af α β γ (ca b):=by
  unfold af ca
  dsimp only
  grind
 have q1:=bV n1 (show 0<=af α β γ (ca a) by grind)
 have q2:=bV n2 (show 0<=af α β γ (ca b) by grind)
 have q:0<(D:Rat)*af α β γ (ca p):=by
  rw[e]
  by_cases k:(w1:Rat)=0
  have:0<(w2:Rat):=by grind
  have:=bo this hb
  grind
  have:=bo (show 0<(w1:Rat) by grind) ha
  grind
 refine R8 fun k=>?_;have:=dc (show 0<=(D:Rat) by grind) (show af α β γ (ca p)<=0 by grind)
 grind
def Jn{a b c d p:I2}(hab:a≠b)(hcd:c≠d)(h:NM a b c d)(h1:cC a b p)(h2:cC c d p):False:=by
 obtain⟨α,β,γ,g1,g2,g3,g4⟩:=pQ hab hcd h.1 h.2;have k1:=wh hab h1 g1 g2;have k2:=wh (α:=-α) (β:=-β) (γ:=-γ) hcd h2 (by unfold af at *; grind) (by unfold af at *; grind)
 unfold af at k1 k2; grind
section
variable{r:VB I2}
def VR.FU(h:VR r){i j:Nat}(hij:i<j)(hj:j<r.length){p:I2}(hi:cC (nx r i) (nx r (i+1)) p)(hp:cC (nx r j) (nx r (j+1)) p):(j=i+1/\p=nx r j)\/(i=0/\j+1=r.length/\p=nx r 0):=by
 by_cases h1:j=i+1
 subst h1;refine .inl ⟨rfl,R8 fun hne=>h.spike i (xF hi hp hne)⟩
 by_cases h2:i=0/\j+1=r.length
 obtain⟨rfl,h2⟩:=h2;refine .inr ⟨rfl,h2,R8 fun hne=>?_⟩;have e1:nx r (j+1)=nx r 0:=by rw[h2,lC]
 have e2:nx r (j+2)=nx r 1:=by
  rw[show j+2=1+r.length by omega]
  exact jh r (Nat.add_mod_right 1 r.length)
 have:=h.spike j;rw[e1,e2] at this;rw[e1] at hp;exact this (xF hp hi hne)
 exact(Jn (h.still i) (h.still j) (h.meet i j (by omega) hj h2) hi hp).elim
def pv(r:VB I2)(m:Nat):Nat:=if m=0 then r.length-1 else m-1
def OD{m:Nat}(hm:m<r.length):pv r m<r.length:=by unfold pv; split<;>omega
def IM{m:Nat}(hm:m<r.length):nx r (pv r m+1)=nx r m:=by
 unfold pv
 by_cases h:m=0
 subst h; rw[R7 rfl,show r.length-1+1=r.length by omega,lC]
 rw[R5 h,show m-1+1=m by omega]
def ID{n k l:Nat}{f:Nat->Int}(hkl:k<l)(hl:l<n)(h:∀i,i<n->i≠k->i≠l->f i=0):aZ n f=f k+f l:=by
 have h1:=fU n f fun i=>if i=k then f k else 0
 have h2:=fp (n:=n) (k:=k) (f:=fun i=>if i=k then f k else 0) (by omega) fun i _ hne=>R5 hne
 have h3:=fp (n:=n) (k:=l) (f:=fun i=>f i-if i=k then f k else 0) hl fun i hi hne=>by
  by_cases e:i=k
  rw[R7 e,e]; omega
  rw[R5 e,h i hi e hne]; rfl
 rw[R7 rfl] at h2;rw[UG] at h3
 omega
def VR.pw(h:VR r){m i:Nat}(hm:m<r.length)(hi:i<r.length)(hb:cC (nx r i) (nx r (i+1)) (nx r m)):i=m\/i=pv r m:=by
 by_cases e:i=m
 exact .inl e
 refine .inr ?_;have hself:cC (nx r m) (nx r (m+1)) (nx r m):=oD _ _;have hn3:=h.n3;rcases Nat.lt_or_gt_of_ne e with g|g
 rcases h.FU g hm hb hself with⟨k,_⟩|⟨k1,k2,k3⟩
 unfold pv; rw[UG]; omega
 exfalso;subst k1;have hp:pv r m<r.length:=OD hm;have hs:cC (nx r (pv r m)) (nx r (pv r m+1)) (nx r m):=by rw[IM hm]; exact oe _ _
 have e2:pv r m=m-1:=by unfold pv; rw[UG]
 have hlt:0<pv r m:=by rw[e2]; omega
 rcases h.FU hlt hp hb hs with⟨k,k'⟩|⟨_,k,_⟩
 rw[e2] at k k';have:=h.still 0;have e3:nx r (m-1)=nx r 1:=by rw[k]
 rw[e3] at k';exact this (by rw[<-k3,k'])
 omega
 rcases h.FU g hi hself hb with⟨k,k'⟩|⟨k1,k2,k3⟩
 subst k; exact Sw k' (h.still m)
 unfold pv; rw[R7 k1]; omega
def VR.inj(h:VR r){i j:Nat}(hi:i<r.length)(hj:j<r.length)(e:nx r i=nx r j):i=j:=by
 have hn3:=h.n3;rcases h.pw hj hi (by rw[<-e]; exact oD _ _) with g|g
 exact g
 exfalso;subst g;have:=h.still (pv r j);rw[IM hj] at this;exact this e
def VR.Bv(h:VR r){i j:Nat}(hi:i<r.length)(hj:j<r.length){p:I2}(hp:∀k,p≠nx r k)(h1:cC (nx r i) (nx r (i+1)) p)(h2:cC (nx r j) (nx r (j+1)) p):i=j:=by
 refine R8 fun hne=>?_;rcases Nat.lt_or_gt_of_ne hne with g|g
 rcases h.FU g hj h1 h2 with⟨_,k⟩|⟨_,_,k⟩<;>exact hp _ k
 rcases h.FU g hi h2 h1 with⟨_,k⟩|⟨_,_,k⟩<;>exact hp _ k
end
def Lg(P:Int->Prop):Prop:=∃k,∀N,k<=N->P N
def Lg.ge(k:Int):Lg (k<=·):=⟨k,fun _ h=>h⟩
def Lg.and{P Q:Int->Prop}(h:Lg P)(g:Lg Q):Lg fun N=>P N/\Q N:=by
 obtain⟨a,ha⟩:=h;obtain⟨b,hb⟩:=g;exact⟨max a b,fun N hN=>⟨ha N (by omega),hb N (by omega)⟩⟩
def Lg.imp{P Q:Int->Prop}(h:Lg P)(g:∀N,P N->Q N):Lg Q:=by
 obtain⟨a,ha⟩:=h;exact⟨a,fun N hN=>g N (ha N hN)⟩
def Lg.all{P:Nat->Int->Prop}{n:Nat}(h:∀i,i<n->Lg (P i)):Lg fun N=>∀i,i<n->P i N:=by
 induction n with
 | zero=>exact⟨0,fun _ _ i hi=>by omega⟩
 | succ n ih =>
  refine((ih fun i hi=>h i (by omega)).and (h n (by omega))).imp fun N g i hi=>?_
  by_cases e:i=n
  rw[e]; exact g.2
  exact g.1 i (by omega)
def Lg.get{P:Int->Prop}(h:Lg P):∃N,0<N/\P N:=by
 obtain⟨k,hk⟩:=h;exact⟨max k 1,by omega,hk _ (by omega)⟩
def GS{T:Int}(h:0<T)(C:Int):Lg fun N=>0<N*T+C:=⟨max 0 (1-C),fun N hN=>by
 have:=Tf (show 1<=T by omega) (show 0<=N by omega)
 omega⟩
def Ms{T:Int}(h:T<0)(C:Int):Lg fun N=>N*T+C<0:=(GS (show 0 < -T by omega) (-C)).imp fun N g=>by
 rw[Int.mul_neg] at g; omega
def Qk{x y d N:Int}(d0:0<=d)(hN:d<N):(x*N<=y*N+d↔x<=y)/\(y*N+d<x*N↔y<x):=by
 have:x*N<=y*N+d↔x<=y:=by
  constructor
  intro h;refine R8 fun g=>?_;have:=Tt (show y+1<=x by omega) (show 0<=N by omega)
  rw[Int.add_mul] at this;omega
  intro h;have:=Tt h (show 0<=N by omega)
  omega
 exact⟨this,by omega⟩
def mw{x y d N:Int}(hN:d<N)(n0:0<=N)(h:x<y):x*N+d<y*N:=by
 have:=Tt (show x+1<=y by omega) n0
 rw[Int.add_mul] at this;omega
def yu(N:Int)(a b p δ:I2):ti (bE N a) (bE N b) (oa δ (bE N p))=N*(N*ti a b p+((b.1-a.1)*δ.2-(b.2-a.2)*δ.1)):=by unfold ti bE oa; grind
def Af{a b p δ:I2}(h:¬cC a b p)(hd:0<=δ.2):Lg fun N=>wi (bE N a) (bE N b) (oa δ (bE N p))=wi a b p/\¬cC (bE N a) (bE N b) (oa δ (bE N p)):=by
 have hl:∀N:Int,max 1 (δ.2+1)<=N->((bE N a).2<=(oa δ (bE N p)).2↔a.2<=p.2)/\((oa δ (bE N p)).2<(bE N a).2↔p.2<a.2)/\((bE N b).2<=(oa δ (bE N p)).2↔b.2<=p.2)/\((oa δ (bE N p)).2<(bE N b).2↔p.2<b.2):=fun N hN=>by
  have h1:=Qk (x:=a.2) (y:=p.2) hd (show δ.2<N by omega)
  have h2:=Qk (x:=b.2) (y:=p.2) hd (show δ.2<N by omega)
  exact⟨h1.1,h1.2,h2.1,h2.2⟩
 rcases Int.lt_trichotomy (ti a b p) 0 with g|g|g
 refine((Lg.ge (max 1 (δ.2+1))).and (Ms g ((b.1-a.1)*δ.2-(b.2-a.2)*δ.1))).imp fun N ⟨h1,h2⟩=>?_;have hs:=(js (x:=N*ti a b p+((b.1-a.1)*δ.2-(b.2-a.2)*δ.1)) (show 0<N by omega)).2.2 h2
 rw[<-yu] at hs;refine⟨?_,fun hb=>by have:=hb.1; omega⟩
 unfold wi;obtain⟨l1,l2,l3,l4⟩:=hl N h1
 by_cases k:b.2<=p.2/\p.2<a.2/\ti a b p<0
 rw[UG,UH,UG,R7 k]
 rw[UG,UG,UG,R5 k]
 refine(Lg.ge (max (max 1 (δ.2+1)) (max (δ.1+1) (1-δ.1)))).imp fun N h1=>?_;obtain⟨l1,l2,l3,l4⟩:=hl N (by omega)
 have hn:¬((a.2<=p.2/\p.2<b.2)\/(b.2<=p.2/\p.2<a.2)):=fun k=>h (gP k g);refine⟨?_,fun hb=>?_⟩
 unfold wi;rw[UG,UG,UG,UG]
 obtain⟨_,b1,b2,b3,b4⟩:=hb;refine h ⟨g,?_,?_,?_,?_⟩
 refine R8 fun k=>?_;have k1:=mw (x:=p.1) (y:=a.1) (show δ.1<N by omega) (by omega) (by omega)
 have k2:=mw (x:=p.1) (y:=b.1) (show δ.1<N by omega) (by omega) (by omega)
 unfold oa bE at b1; dsimp only at b1; omega
 refine R8 fun k=>?_;have k1:=mw (x:=a.1) (y:=p.1) (show -δ.1<N by omega) (by omega) (by omega)
 have k2:=mw (x:=b.1) (y:=p.1) (show -δ.1<N by omega) (by omega) (by omega)
 unfold oa bE at b2; dsimp only at b2; omega
 refine R8 fun k=>?_;have k1:=mw (x:=p.2) (y:=a.2) (show δ.2<N by omega) (by omega) (by omega)
 have k2:=mw (x:=p.2) (y:=b.2) (show δ.2<N by omega) (by omega) (by omega)
 unfold oa bE at b3; dsimp only at b3; omega
 refine R8 fun k=>?_;have k1:=mw (x:=a.2) (y:=p.2) (show -δ.2<N by omega) (by omega) (by omega)
 have k2:=mw (x:=b.2) (y:=p.2) (show -δ.2<N by omega) (by omega) (by omega)
 unfold oa bE at b4; dsimp only at b4; omega
 refine((Lg.ge (max 1 (δ.2+1))).and (GS g ((b.1-a.1)*δ.2-(b.2-a.2)*δ.1))).imp fun N ⟨h1,h2⟩=>?_;have hs:=(js (x:=N*ti a b p+((b.1-a.1)*δ.2-(b.2-a.2)*δ.1)) (show 0<N by omega)).1.2 h2
 rw[<-yu] at hs;refine⟨?_,fun hb=>by have:=hb.1; omega⟩
 unfold wi;obtain⟨l1,l2,l3,l4⟩:=hl N h1
 by_cases k:a.2<=p.2/\p.2<b.2/\0<ti a b p
 rw[UH,R7 k]
 rw[UG,UG,R5 k,UG]
def C6{a b p:I2}{K:Int}(hab:a≠b)(h:cC a b p)(hK:b.1-a.1<K/\a.1-b.1<K):Lg fun N=>wi (bE N a) (bE N b) (oa (K,1) (bE N p))=wi a b p/\¬cC (bE N a) (bE N b) (oa (K,1) (bE N p)):=by
 refine(Lg.ge 2).imp fun N hN=>?_;have e:=yu N a b p (K,1);rw[h.1] at e
 dsimp only at e
 have e':ti (bE N a) (bE N b) (oa (K,1) (bE N p))=N*((b.1-a.1)-(b.2-a.2)*K):=by rw[e]; grind
 rw[wG h.1];have hl1:=Qk (x:=a.2) (y:=p.2) (show(0:Int)<=1 by omega) (show 1<N by omega)
 have hl2:=Qk (x:=b.2) (y:=p.2) (show(0:Int)<=1 by omega) (show 1<N by omega)
 have s:=js (x:=(b.1-a.1)-(b.2-a.2)*K) (show 0<N by omega)
 rw[<-e'] at s;rcases Int.lt_trichotomy (b.2-a.2) 0 with g|g|g
 have:(b.2-a.2)*K<=-1*K:=Tt (by omega) (by omega)
 refine⟨?_,fun hb=>by have:=hb.1; omega⟩
 unfold wi;rw[R5 (by unfold bE oa; dsimp only; omega),UG]
 rw[g,Int.zero_mul] at s;have hne:b.1-a.1≠0:=fun k=>hab (SO (by omega) (by omega))
 refine⟨?_,fun hb=>by have:=hb.1; omega⟩
 unfold wi;rw[R5 (by unfold bE oa; dsimp only; omega),R5 (by unfold bE oa; dsimp only; omega)]
 have:1*K<=(b.2-a.2)*K:=Tt (by omega) (by omega)
 refine⟨?_,fun hb=>by have:=hb.1; omega⟩
 unfold wi;rw[UG,R5 (by unfold bE oa; dsimp only; omega)]
def Sg(r:VB I2)(s:Int):Prop:=∀N:Int,0<N->∀q:I2,(∀i,i<r.length->¬cC (bE N (nx r i)) (bE N (nx r (i+1))) q)->cL (r.map (bE N)) q=0\/cL (r.map (bE N)) q=s
section
variable{r:VB I2}{s:Int}
def VR.ne_nil(h:VR r):r≠[]:=fun e=>by have:=h.n3; rw[e] at this; simp at this
def Sg.BW(h:VR r)(g:Sg r s)(p:I2):cL r p=0\/cL r p=s:=by
 obtain⟨K,_,hK⟩:=(Lg.all (n:=r.length) (P:=fun i K=>(nx r (i+1)).1-(nx r i).1<K/\(nx r i).1-(nx r (i+1)).1<K) fun i _ =>
  (Lg.ge (max ((nx r (i+1)).1-(nx r i).1) ((nx r i).1-(nx r (i+1)).1)+1)).imp fun K h=>by omega).get
 obtain⟨N,hN,hP⟩:=(Lg.all (n:=r.length) (P:=fun i N=>wi (bE N (nx r i)) (bE N (nx r (i+1))) (oa (K,1) (bE N p))=wi (nx r i) (nx r (i+1)) p/\¬cC (bE N (nx r i)) (bE N (nx r (i+1))) (oa (K,1) (bE N p))) fun i hi=>by
  by_cases hb:cC (nx r i) (nx r (i+1)) p
  exact C6 (h.still i) hb (hK i hi)
  exact Af hb (show(0:Int)<=1 by decide)).get
 have e:cL (r.map (bE N)) (oa (K,1) (bE N p))=cL r p:=by
  unfold cL;rw[Si];exact aE fun i hi=>by rw[bf _ h.ne_nil,bf _ h.ne_nil]; exact(hP i hi).1
 rw[<-e];exact g N hN _ fun i hi=>(hP i hi).2
def P7(p v:I2):up p v=0\/up p v=1:=by unfold up; split<;>simp
def nS:Chg om 1 1 where
 inj h:=by unfold om at h; have h1:=SH Prod.fst h; have h2:=SH Prod.snd h; dsimp only at h1 h2; exact SO (by omega) (by omega)
 ti a b c:=by rw[B3]; omega
 di a b c:=by unfold di om; grind
 kp:=by decide
 dp:=by decide
 btw:=xh
def Dp(p:I2):om (om p)=p:=by unfold om; simp
def yk(N:Int)(p:I2):bE N (om p)=om (bE N p):=by unfold bE om; simp[Int.neg_mul]
def Sg.refl(h:r≠[])(g:Sg r s):Sg (r.map Jd.om) s:=by
 intro N hN q hq;rw[Si] at hq;have hne:r.map (bE N)≠[]:=by simpa using h
 have e:(r.map Jd.om).map (bE N)=(r.map (bE N)).map Jd.om:=by
  rw[Uf,Uf];exact List.map_congr_left fun p _=>yk N p
 have hq':∀i,i<r.length->¬cC (bE N (nx r i)) (bE N (nx r (i+1))) (Jd.om q):=fun i hi hb=>by
  have:=hq i hi;rw[bf _ h,bf _ h,yk,yk,<-Dp q] at this;exact this (xh.2 hb)
 rw[e,<-Dp q,mn hne,AH (fun i hi=>by
  rw[Si] at hi;rw[bf _ h,bf _ h]; exact hq' i hi)]
 exact g N hN _ hq'
def Sg.Gy(h:VR r)(g:Sg r s)(p:I2):eK r p=0\/eK r p=s:=by
 rw[<-mn h.ne_nil];exact(g.refl h.ne_nil).BW (nS.vr h) _
end
def qy(n m:Nat)(f:Nat->Nat->Int):aZ n (fun i=>aZ m fun j=>f i j)=aZ m fun j=>aZ n fun i=>f i j:=by
 induction n with
 | zero=>simp only[aZ]; exact(bR fun _ _=>rfl).symm
 | succ n ih=>simp only[aZ]; rw[jC,ih]
def zy(n m:Nat)(f:Nat->Int):aZ (n+m) f=aZ n f+aZ m fun i=>f (n+i):=by
 induction m with
 | zero=>simp[aZ]
 | succ m ih=>rw[<-Nat.add_assoc]; simp only[aZ]; rw[ih]; omega
def pb(n:Nat)(c:Int):aZ n (fun _=>c)=n*c:=by
 induction n with
 | zero=>simp[aZ]
 | succ n ih=>simp only[aZ]; rw[ih]; grind
def sS(n:Nat)(f:Nat->Int):aZ n (fun i=>-f i) = -aZ n f:=by
 have:=fU n (fun _=>0) f;rw[bR (f:=fun _=>(0:Int)) fun _ _=>rfl] at this;rw[<-Int.zero_sub (aZ n f),<-this];exact aE fun i _=>by omega
def jO{B lo hi:Int}{H:Nat}(F:Int->Int)(h1:B<=lo)(h2:lo<=hi)(h3:hi<=B+H) :
  aZ H (fun j=>if lo<=B+j/\B+j<hi then F (B+j) else 0)=aZ (hi-lo).toNat fun k=>F (lo+k):=by
 obtain⟨n,hn⟩:∃n:Nat,lo=B+n:=⟨(lo-B).toNat,by omega⟩
 obtain⟨m,hm⟩:∃m:Nat,hi=lo+m:=⟨(hi-lo).toNat,by omega⟩
 obtain⟨k,hk⟩:∃k:Nat,H=n+m+k:=⟨H-n-m,by omega⟩
 subst hk;rw[zy,zy,bR (n:=n) fun i hi=>UG,bR (n:=k) fun i hi=>UG,show(hi-lo).toNat=m by omega,Int.zero_add,Int.add_zero]
 exact aE fun i hi=>by rw[UH]; congr 1; omega
def count_le{L q:Int}{W:Nat}(h1:L-1<=q)(h2:q<L+W):aZ W (fun i=>if L+i<=q then 1 else 0)=q-L+1:=by
 have:=jO (B:=L) (lo:=L) (hi:=q+1) (H:=W) (fun _=>1) (by omega) (by omega) (by omega)
 rw[pb] at this;rw[aE (g:=fun j=>if L<=L+j/\L+j<q+1 then(1:Int) else 0) fun i _=>?_,this]
 omega
 by_cases h:L+(i:Int)<=q
 rw[R7 h,UH]
 rw[R5 h,UG]
def Iy{L q:Int}{W:Nat}(h1:L<=q)(h2:q<=L+W):aZ W (fun i=>if q<=L+i then 1 else 0)=L+W-q:=by
 have:=jO (B:=L) (lo:=q) (hi:=L+W) (H:=W) (fun _=>1) (by omega) (by omega) (by omega)
 rw[pb] at this;rw[aE (g:=fun j=>if q<=L+j/\L+j<L+W then(1:Int) else 0) fun i _=>?_,this]
 omega
 by_cases h:q<=L+(i:Int)
 rw[R7 h,UH]
 rw[R5 h,UG]
def bx(L B:Int)(W H:Nat)(f:I2->Int):Int:=aZ W fun i=>aZ H fun j=>f (L+i,B+j)
structure Inb(L B:Int)(W H:Nat)(p:I2):Prop where
 x1:L<=p.1
 x2:p.1<L+W
 y1:B<=p.2
 y2:p.2<B+H
section
variable{L B:Int}{W H:Nat}
def zW{f g:I2->Int}(h:∀p,Inb L B W H p->f p=g p):bx L B W H f=bx L B W H g :=
 aE fun i hi=>aE fun j hj=>h _ ⟨by dsimp only; omega,by dsimp only; omega,by dsimp only; omega,by dsimp only; omega⟩
def xQ(f g:I2->Int):bx L B W H (fun p=>f p+g p)=bx L B W H f+bx L B W H g:=by
 unfold bx;rw[<-jC];exact aE fun i _=>jC _ _ _
def yr(f:I2->Int):bx L B W H (fun p=>-f p) = -bx L B W H f:=by
 unfold bx;rw[<-sS];exact aE fun i _=>sS _ _
def MH(c:Int)(f:I2->Int):bx L B W H (fun p=>c*f p)=c*bx L B W H f:=by
 unfold bx;rw[<-lU];exact aE fun i _=>lU _ _ _
def NH(n:Nat)(f:Nat->I2->Int):bx L B W H (fun p=>aZ n fun k=>f k p)=aZ n fun k=>bx L B W H (f k):=by
 unfold bx;rw[qy n W];exact aE fun i _=>qy _ _ _
def Fk{v:I2}(h:Inb L B W H v):bx L B W H (fun p=>if p=v then 1 else 0)=1:=by
 obtain⟨a,b,c,d⟩:=h;unfold bx;rw[fp (k:=(v.1-L).toNat) (by omega) fun i hi hne=>bR fun j hj=>R5 fun e=>hne (by have:=SH Prod.fst e; dsimp only at this; omega)]
 rw[fp (k:=(v.2-B).toNat) (by omega) fun j hj hne=>R5 fun e=>hne (by have:=SH Prod.snd e; dsimp only at this; omega)]
 exact R7 (SO (by dsimp only; omega) (by dsimp only; omega))
def MM{D c:Int}(hD:0<D):∃q:Int,D*q<c/\c<=D*(q+1):=by
 refine⟨(c-1)/D,?_,?_⟩
 have:=Int.mul_ediv_self_le (x:=c-1) (k:=D) (by omega)
 omega
 have:=Int.lt_mul_ediv_self_add (x:=c-1) (k:=D) hD;rw[Ui];omega
def uZ{D x y:Int}(hD:0<D):D*x<D*y↔x<y:=⟨fun h=>Int.lt_of_mul_lt_mul_left h (Int.le_of_lt hD),fun h=>Int.mul_lt_mul_of_pos_left h hD⟩
def iU{D x y:Int}(hD:0<D):D*x<=D*y↔x<=y:=⟨fun h=>Int.le_of_mul_le_mul_left h hD,fun h=>Tf h (Int.le_of_lt hD)⟩
def CS{a b:I2}(ha:Inb L B W H a)(hb:Inb L B W H b)(h:a.2<b.2):bx L B W H (fun p=>wi a b p+wj a b p)=(b.2-a.2)*(a.1+b.1-(2*L+W-1)):=by
 obtain⟨ax1,ax2,ay1,ay2⟩:=ha;obtain⟨bx1,bx2,by1,by2⟩:=hb;have hD:0<b.2-a.2:=by omega
 let c:Int->Int:=fun y=>(b.1-a.1)*(y-a.2)+(b.2-a.2)*a.1
 have hti:∀x y:Int,ti a b (x,y)=c y-(b.2-a.2)*x:=fun x y=>by show _=(b.1-a.1)*(y-a.2)+(b.2-a.2)*a.1-(b.2-a.2)*x; unfold ti; grind
 have hcr:∀y,c y+c (a.2+b.2-y)=(b.2-a.2)*(a.1+b.1):=fun y=>by show(b.1-a.1)*(y-a.2)+(b.2-a.2)*a.1+((b.1-a.1)*(a.2+b.2-y-a.2)+(b.2-a.2)*a.1)=_; grind
 have hlo:∀y,a.2<=y->y<=b.2->(b.2-a.2)*L<=c y:=fun y h1 h2=>by
  have e:c y=(b.2-y)*a.1+(y-a.2)*b.1:=by show(b.1-a.1)*(y-a.2)+(b.2-a.2)*a.1=_; grind
  have e1:=Tf ax1 (show 0<=b.2-y by omega)
  have e2:=Tf bx1 (show 0<=y-a.2 by omega)
  have e3:(b.2-a.2)*L=(b.2-y)*L+(y-a.2)*L:=by grind
  omega
 have hhi:∀y,a.2<=y->y<=b.2->c y<=(b.2-a.2)*(L+W-1):=fun y h1 h2=>by
  have e:c y=(b.2-y)*a.1+(y-a.2)*b.1:=by show(b.1-a.1)*(y-a.2)+(b.2-a.2)*a.1=_; grind
  have e1:=Tf (show a.1<=L+W-1 by omega) (show 0<=b.2-y by omega)
  have e2:=Tf (show b.1<=L+W-1 by omega) (show 0<=y-a.2 by omega)
  have e3:(b.2-a.2)*(L+W-1)=(b.2-y)*(L+W-1)+(y-a.2)*(L+W-1):=by grind
  omega
 have hS:a.1+b.1=a.1+b.1:=rfl
 let F:Int->Int:=fun y=>aZ W fun i=>if 0<ti a b (L+i,y) then 1 else 0
 let G:Int->Int:=fun y=>aZ W fun i=>if ti a b (L+i,y)<0 then 1 else 0
 have hFG:∀y,a.2<=y->y<b.2->F y-G (a.2+b.2-y)=a.1+b.1-(2*L+W-1):=fun y h1 h2=>by
  obtain⟨q,q1,q2⟩:=MM (c:=c y) hD;have l1:=hlo y h1 (by omega)
  have l2:=hhi y h1 (by omega)
  have l3:=hlo (a.2+b.2-y) (by omega) (by omega)
  have l4:=hhi (a.2+b.2-y) (by omega) (by omega)
  have hc:=hcr y;have g1:L<=q+1:=(iU hD).1 (Int.le_trans l1 q2);have g2:q<L+W-1:=(uZ hD).1 (Int.lt_of_lt_of_le q1 l2);have d1:(b.2-a.2)*(a.1+b.1-q)=(b.2-a.2)*(a.1+b.1)-(b.2-a.2)*q:=by grind
  have d2:(b.2-a.2)*(a.1+b.1-(q+1))=(b.2-a.2)*(a.1+b.1)-(b.2-a.2)*(q+1):=by grind
  have g3:L<a.1+b.1-q:=(uZ hD).1 (by omega)
  have g4:a.1+b.1-(q+1)<=L+W-1:=(iU hD).1 (by omega)
  have eF:F y=q-L+1:=by
   rw[<-count_le (L:=L) (q:=q) (W:=W) (by omega) (by omega)]
   refine aE fun i _=>?_;rw[hti]
   by_cases k:L+(i:Int)<=q
   have:=(iU hD).2 k;rw[R7 k,UH]
   have:=(iU hD).2 (show q+1<=L+(i:Int) by omega)
   rw[R5 k,UG]
  have eG:G (a.2+b.2-y)=L+W-(a.1+b.1-q):=by
   rw[<-Iy (L:=L) (q:=a.1+b.1-q) (W:=W) (by omega) (by omega)]
   refine aE fun i _=>?_;rw[hti]
   by_cases k:a.1+b.1-q<=L+(i:Int)
   have:=(iU hD).2 k;rw[R7 k,UH]
   have:=(iU hD).2 (show L+(i:Int)<=a.1+b.1-(q+1) by omega)
   rw[R5 k,UG]
  rw[eF,eG]; omega
 have e:bx L B W H (fun p=>wi a b p+wj a b p)=aZ H (fun j=>if a.2<=B+j/\B+j<b.2 then F (B+j) else 0)-aZ H (fun j=>if a.2+1<=B+j/\B+j<b.2+1 then G (B+j) else 0):=by
  unfold bx;rw[qy,<-fU];refine aE fun j _=>?_;rw[jC];have e1:aZ W (fun i=>wi a b (L+i,B+j))=if a.2<=B+j/\B+j<b.2 then F (B+j) else 0:=by
   by_cases k:a.2<=B+(j:Int)/\B+(j:Int)<b.2
   rw[R7 k];refine aE fun i _=>?_;unfold wi
   dsimp only
   by_cases k2:0<ti a b (L+i,B+j)
   rw[UH,R7 k2]
   rw[UG,UG,R5 k2]
   rw[R5 k];refine bR fun i _=>?_;unfold wi
   dsimp only
   rw[UG,UG]
  have e2:aZ W (fun i=>wj a b (L+i,B+j)) = -(if a.2+1<=B+j/\B+j<b.2+1 then G (B+j) else 0):=by
   by_cases k:a.2+1<=B+(j:Int)/\B+(j:Int)<b.2+1
   rw[R7 k]
   show _ = -aZ W fun i=>if ti a b (L+i,B+j)<0 then 1 else 0
   rw[<-sS];refine aE fun i _=>?_;unfold wj
   dsimp only
   by_cases k2:ti a b (L+i,B+j)<0
   rw[UH,R7 k2]
   rw[UG,UG,R5 k2]; rfl
   rw[R5 k];refine bR fun i _=>?_;unfold wj
   dsimp only
   rw[UG,UG]
  rw[e1,e2]; omega
 rw[e,jO F ay1 (by omega) (by omega),jO G (by omega) (by omega) (by omega),show b.2+1-(a.2+1)=b.2-a.2 by omega]
 obtain⟨D,hDn⟩:∃D:Nat,b.2=a.2+D:=⟨(b.2-a.2).toNat,by omega⟩
 rw[show(b.2-a.2).toNat=D by omega,<-HK D fun k=>G (a.2+1+k),<-fU]
 rw[aE (g:=fun _=>a.1+b.1-(2*L+W-1)) fun k hk=>?_,pb]
 rw[show b.2-a.2=(D:Int) by omega]
 have:=hFG (a.2+k) (by omega) (by omega)
 rw[<-this]
 congr 2
 omega
def KP(a b p:I2):wj b a p = -wj a b p:=by rw[<-BK,<-BK,nQ]
def G5{a b:I2}(ha:Inb L B W H a)(hb:Inb L B W H b):bx L B W H (fun p=>wi a b p+wj a b p)=(b.2-a.2)*(a.1+b.1-(2*L+W-1)):=by
 rcases Int.lt_trichotomy a.2 b.2 with h|h|h
 exact CS ha hb h
 rw[h,Int.sub_self,Int.zero_mul];refine bR fun i _=>bR fun j _=>?_;unfold wi wj
 dsimp only
 rw[UG,UG,UG,UG]; rfl
 have:=CS hb ha h;have e:bx L B W H (fun p=>wi a b p+wj a b p) = -bx L B W H (fun p=>wi b a p+wj b a p):=by
  rw[<-yr];exact zW fun p _=>by rw[nQ a b,KP a b]; omega
 rw[e,this]; grind
def pV{r:VB I2}(h:∀i,Inb L B W H (nx r i)):bx L B W H (fun p=>cL r p+eK r p)=eE r:=by
 have e:bx L B W H (fun p=>cL r p+eK r p)=aZ r.length fun i=>bx L B W H fun p=>wi (nx r i) (nx r (i+1)) p+wj (nx r i) (nx r (i+1)) p:=by
  rw[<-NH];exact zW fun p _=>(jC _ _ _).symm
 rw[e,aE fun i _=>G5 (h i) (h (i+1))];have t:=kH r.length fun i=>(nx r i).1*(nx r i).2-(2*L+W-1)*(nx r i).2;rw[lC,Int.sub_self] at t;have t2:=jC r.length (fun i=>(nx r i).1*(nx r (i+1)).2-(nx r i).2*(nx r (i+1)).1) fun i=>((nx r (i+1)).1*(nx r (i+1)).2-(2*L+W-1)*(nx r (i+1)).2)-((nx r i).1*(nx r i).2-(2*L+W-1)*(nx r i).2);rw[t,Int.add_zero] at t2;unfold eE;rw[<-t2];exact aE fun i _=>by grind
end
structure Steps(a b:I2)(g:Nat)(u w s t:Int):Prop where
 g0:0<g
 x:b.1-a.1=g*u
 y:b.2-a.2=g*w
 one:s*u+t*w=1
section
variable{a b:I2}{g:Nat}{u w s t:Int}
end
section
variable{L B:Int}{W H:Nat}
def Inb.rC{a b p:I2}(ha:Inb L B W H a)(hb:Inb L B W H b)(h:cC a b p):Inb L B W H p:=by
 obtain⟨_,h1,h2,h3,h4⟩:=h;obtain⟨a1,a2,a3,a4⟩:=ha;obtain⟨b1,b2,b3,b4⟩:=hb;exact⟨by omega,by omega,by omega,by omega⟩
end
def MZ{a b p:I2}(h:cC a b p)(ha:p≠a)(hb:p≠b):up p a+up p b=1:=by
 obtain⟨h0,h1,h2,h3,h4⟩:=h;have ha':¬(p.1=a.1/\p.2=a.2):=fun k=>ha (SO k.1 k.2);have hb':¬(p.1=b.1/\p.2=b.2):=fun k=>hb (SO k.1 k.2)
 by_cases e1:a.2=p.2
 by_cases e2:b.2=p.2
 unfold up
 by_cases k:a.1<p.1
 rw[UH,UG]; rfl
 rw[UG,UH]; rfl
 rw[tI e1] at h0;rcases Tu.1 h0 with k|k<;>omega
 by_cases e2:b.2=p.2
 rw[vA e2] at h0;rcases Tu.1 h0 with k|k<;>omega
 unfold up
 by_cases k:p.2<a.2
 rw[UH,UG]; rfl
 rw[UG,UH]; rfl
section
variable{r:VB I2}
def jN{n:Nat}{f:Nat->Int}(h:∀i,i<n->f i<=0):aZ n f<=0:=by
 induction n with
 | zero=>simp[aZ]
 | succ n ih =>
  have h1:=ih fun i hi=>h i (by omega)
  have h2:=h n (by omega)
  simp only[aZ]; omega
end
def VR.LC{r:VB I2}(h:VR r):eE r≠0:=by
 intro h0;have hne:r≠[]:=h.ne_nil;have h2:VR (r.map (bE 2)):=(jV (s:=2) (by decide)).vr h
 have hl:(r.map (bE 2)).length=r.length:=Si _;obtain⟨s,hs,g⟩:=h2.sign;have g:Sg (r.map (bE 2)) s:=g;have ea:∀i,nx (r.map (bE 2)) i=bE 2 (nx r i):=bf _ hne;have har:eE (r.map (bE 2))=0:=by
  unfold eE at h0 ⊢;rw[hl,aE (g:=fun i=>4*((nx r i).1*(nx r (i+1)).2-(nx r i).2*(nx r (i+1)).1)) fun i _=>by rw[ea,ea]; unfold bE; grind]
  rw[lU,h0,Int.mul_zero]
 generalize hr2:r.map (bE 2)=r2 at *;obtain⟨p,hp,hpa,hpb⟩:∃p,cC (nx r2 0) (nx r2 (0+1)) p/\p≠nx r2 0/\p≠nx r2 (0+1):=by
  refine⟨((nx r 0).1+(nx r (0+1)).1,(nx r 0).2+(nx r (0+1)).2),?_,?_,?_⟩
  rw[ea,ea];unfold cC ti bE;refine⟨by grind,?_⟩
  dsimp only
  omega
  rw[ea];intro e;have e1:=SH Prod.fst e;have e2:=SH Prod.snd e;unfold bE at e1 e2
  dsimp only at e1 e2
  exact h.still 0 (SO (by omega) (by omega))
  rw[ea];intro e;have e1:=SH Prod.fst e;have e2:=SH Prod.snd e;unfold bE at e1 e2
  dsimp only at e1 e2
  exact h.still 0 (SO (by omega) (by omega))
 have h3:=h2.n3;have hk:∀k,p≠nx r2 k:=by
  intro k e;have hm:k%r2.length<r2.length:=SY _ (by omega)
  have e':p=nx r2 (k%r2.length):=by rw[e]; exact jh r2 (Nat.mod_mod _ _).symm
  rw[e'] at hp hpa hpb;rcases h2.pw hm (by omega) hp with c|c
  exact hpa (by rw[<-c])
  have:=IM hm;rw[<-c] at this;exact hpb this.symm
 have hd:=CL r2 p;rw[fp (k:=0) (by omega) fun j hj hne=>by unfold MF; exact R5 fun c=>hne (h2.Bv hj (by omega) hk c hp)] at hd
 unfold MF at hd;rw[R7 hp] at hd;have hu:=MZ hp (hk _) (hk _);have a1:=P7 p (nx r2 0);have w1:=g.BW h2 p;have w2:=g.Gy h2 p;obtain⟨K,K0,hK⟩:=(Lg.all (n:=r2.length) (P:=fun i K=>-K<(nx r2 i).1/\(nx r2 i).1<K/\-K<(nx r2 i).2/\(nx r2 i).2<K) fun i _ =>
  (Lg.ge (max (max (nx r2 i).1 (-(nx r2 i).1)) (max (nx r2 i).2 (-(nx r2 i).2))+1)).imp fun K h=>by omega).get
 have hb:∀i,Inb (-K) (-K) (2*K).toNat (2*K).toNat (nx r2 i):=fun i=>by
  have:=hK (i%r2.length) (SY _ (by omega))
  rw[jh r2 (Nat.mod_mod i r2.length)] at this;exact⟨by omega,by omega,by omega,by omega⟩
 have e:=pV hb;rw[har] at e;have hle:bx (-K) (-K) (2*K).toNat (2*K).toNat (fun q=>(if q=p then 1 else 0) + -(s*(Jd.cL r2 q+eK r2 q)))<=0:=jN fun i _=>jN fun j _=>by
  have a:=g.BW h2 (-K+i,-K+j);have b:=g.Gy h2 (-K+i,-K+j)
  dsimp only
  split
  rename_i c;rw[c];rcases hs with rfl|rfl<;>omega
  rcases hs with rfl|rfl<;>omega
 rw[xQ (fun q=>if q=p then 1 else 0),Fk ((hb 0).rC (hb (0+1)) hp),yr,MH,e] at hle
 omega
end Jd
end
section
namespace Go.Proofs.Ytmndpgfbkicndaa
open Go Go.Ab Go.Ab.W Go.Ab.B Jd
structure Fcs(pts:VB I2)(F:VB Fc):Prop where
 len:3<=pts.length/\pts.length<=120
 flen:1<=F.length/\F.length<=64
 near:ig pts
 one:∀i,i<pts.length->nx pts i∉pts.take i
 ok:Qq pts F
 va:∀f∈F,PM pts f=true
 tu:∀f∈F,N9 pts f=true
def oV{p:Fc->Bool}{F:VB Fc}(h:cj (jv p F) (.inr ()) F.length 0=.inr ()):∀f∈F,p f=true:=by
 intro f hf;obtain⟨j,hj,e⟩:=SF.1 hf;have:=kF (f:=jv p F) (fun j r hr=>by
  unfold jv at hr
  split at hr
  split at hr
  cases hr
  cases hr; intro c; cases c
  cases hr) h j hj
 unfold jv at this;rw[R6 hj,e] at this
 dsimp only at this
 refine R8 fun hc=>?_;rw[R5 hc] at this; cases this
def H9{f:Nat->VA (Int⊕VC)}(hf:∀j r,f j=some (.inl r)->0<=r){k:Nat}{v:Int}(h:cj f (.inr ()) k 0=.inl v):0<=v:=by
 rcases db (f:=f) (e:=.inr ()) k 0 with⟨h1,h2⟩|⟨j,_,h2,h3⟩
 rw[h2] at h; cases h
 rw[h] at h3; exact hf j v h3
def qI{p:Fc->Bool}{F:VB Fc}{v:Int}(h:cj (jv p F) (.inr ()) F.length 0=.inl v):0<=v:=H9 (fun j r hr=>by
 unfold jv at hr
 split at hr
 split at hr
 cases hr
 have:=Sb hr;have:=Sum.inl.inj this;omega
 cases hr) h
def JT{pts:VB I2}(h0:0<pts.length)(h:cj (mq pts) (.inr ()) pts.length 0=.inr ()):ig pts:=by
 intro q hq;obtain⟨j,hj,e⟩:=SF.1 hq;have:=B7 h0 h j;unfold nx at this;rw[TO hj,Sc,R6 hj,e] at this;exact this
def K5{pts:VB I2}{f:Fc}(h:PM pts f=true):∀r∈f.1::f.2,eE (dG pts r 1)≠0:=fun r hr =>
 VR.LC (xT.1 (of_decide_eq_true (Sp.1 h r hr))).vr
def KH{pts:VB I2}(h:cj (pX pts) (.inr ()) pts.length 0=.inr ()):∀i,i<pts.length->nx pts i∉pts.take i:=fun i hi hc=>by
 have:=kF (f:=pX pts) (fun j r hr=>by
  unfold pX at hr
  split at hr
  cases hr; intro c; cases c
  cases hr) h i hi
 unfold pX at this;rw[R7 hc] at this; cases this
abbrev Ed:=Ut
def acc{α:Type}(g:Nat->VB α):Nat->VB α
 | 0=>[]
 | k+1=>acc g k++g k
def jL{α:Type}{g:Nat->VB α}{b:Nat}:∀{k:Nat},(∀i,i<k->(g i).length<=b)->(acc g k).length<=k*b
 | 0,_=>by simp[acc]
 | k+1,h=>by
  have h1:=jL (k:=k) fun i hi=>h i (by omega)
  have h2:=h k (by omega)
  rw[acc,Sn,TM]; omega
def gV(l:VB Int)(f r i:Nat):Ed:=(l.getD i 0,l.getD ((i+1)%l.length) 0,(f:Int),(r:Int))
def rE(l:VB Int)(f r:Nat):VB Ed:=acc (fun i=>[gV l f r i]) l.length
def fE(rs:Uv)(f:Nat):VB Ed:=acc (fun r=>rE (rs.getD r []) f r) rs.length
def ak(F:VB Fc)(f:Nat):Uv:=(F.getD f ([],[])).1::(F.getD f ([],[])).2
def sE(F:VB Fc):VB Ed:=acc (fun f=>fE (ak F f) f) F.length
def HY{l:VB Int}{f r:Nat}:(rE l f r).length<=l.length:=by
 have:=jL (g:=fun i=>[gV l f r i]) (b:=1) (k:=l.length) fun i _=>by simp
 unfold rE; omega
section
variable{pts:VB I2}{F:VB Fc}(n:Nat)
end
def Bi(pts:VB I2)(e:Ed):Prop:=(0<=e.1/\e.1<pts.length)/\(0<=e.2.1/\e.2.1<pts.length)/\eO pts e.1≠eO pts e.2.1
def qa(e f:Ed):Bool:=(decide (e.1=f.1)&&decide (e.2.1=f.2.1)) ||(decide (e.1=f.2.1)&&decide (e.2.1=f.1))
noncomputable def iI (pts:VB I2) (e f:Ed):Bool :=
 if qa e f then false
 else if nj (eO pts e.1) (eO pts e.2.1) (eO pts f.1) (eO pts f.2.1)=1 then !decide (e.1=f.1) &&(!decide (e.1=f.2.1) &&(!decide (e.2.1=f.1) && !decide (e.2.1=f.2.1)))
 else !decide (nj (eO pts e.1) (eO pts e.2.1) (eO pts f.1) (eO pts f.2.1)=0)
def Jy(e f:Ed):(br (decide (e.1=f.1)) (br (decide (e.2.1=f.2.1)) (some true) (br (decide (e.1=f.2.1)) (some (decide (e.2.1=f.1))) (some false))) (br (decide (e.1=f.2.1)) (some (decide (e.2.1=f.1))) (some false)))=some (qa e f):=by
 unfold qa;cases decide (e.1=f.1)<;>cases decide (e.2.1=f.2.1)<;>cases decide (e.1=f.2.1)<;>cases decide (e.2.1=f.1)<;>rfl
def Ay{pts:VB I2}{i:Int}(h:0<=i/\i<pts.length):cz i pts.length=true:=Sd ⟨h.1,by omega⟩
def Ka(e f:Ed):(br (!decide (e.1=f.1)) (br (!decide (e.1=f.2.1)) (br (!decide (e.2.1=f.1)) (some (!decide (e.2.1=f.2.1))) (some false)) (some false)) (some false))=some (!decide (e.1=f.1) &&(!decide (e.1=f.2.1) &&(!decide (e.2.1=f.1) && !decide (e.2.1=f.2.1)))):=by
 cases decide (e.1=f.1)<;>cases decide (e.1=f.2.1)<;>cases decide (e.2.1=f.1)<;>rfl
section
variable{pts:VB I2}{F:VB Fc}(n:Nat)
def NB(hb:ig pts){e f:Ed}(he:Bi pts e)(hf:Bi pts f)(hn:1000<n):Om n pts F e.1 e.2.1 e.2.2.1 e.2.2.2 f.1 f.2.1 f.2.2.1 f.2.2.2=some (iI pts e f):=by
 obtain⟨a1,a2,a3⟩:=he;obtain⟨b1,b2,b3⟩:=hf;have i6:∀{p:I2},Nr p->pY p.1/\pY p.2:=fun{p} h=>by
  unfold Nr at h; unfold pY; omega
 have nf:∀{p:I2},Nr p->¬Fa p:=fun{p} h=>by
  unfold Nr at h; unfold Fa; omega
 have c1:=ja hb a1;have c2:=ja hb a2;have c3:=ja hb b1;have c4:=ja hb b2;unfold Om iI;rw[Jy,ai];cases qa e f
 ·rw[jl,Ay a1,bc,oC a1,ai]
  try dsimp only
  rw[Ay a2,bc,oC a2,ai]
  try dsimp only
  rw[Ay b1,bc,oC b1,ai]
  try dsimp only
  rw[Ay b2,bc,oC b2,ai]
  try dsimp only
  rw[MB n (i6 c1) (i6 c2) (i6 c3) (i6 c4) (by omega),R5 (by
   rintro(h|h|h|h|h|h)
   exact nf c1 h
   exact nf c2 h
   exact nf c3 h
   exact nf c4 h
   exact a3 h
   exact b3 h),ai]
  try dsimp only
  rw[Ka,R5 (by decide)]
  by_cases h:nj (eO pts e.1) (eO pts e.2.1) (eO pts f.1) (eO pts f.2.1)=0
  rw[aH h,UG,h]; rfl
  rw[aD h]
  by_cases g:nj (eO pts e.1) (eO pts e.2.1) (eO pts f.1) (eO pts f.2.1)=1
  rw[aH g,R7 g]
  rw[aD g,R5 g,Sm h]; rfl
 rfl
end
def bO(P:VB Ed->Ed->Bool):VB Ed->VB Ed->VA Int
 | _,[]=>none
 | d,e::es=>if P d e then some e.2.2.1 else bO P (d++[e]) es
def km{P:VB Ed->Ed->Bool}:∀(a b d:VB Ed),bO P d (a++b)=match bO P d a with|some v=>some v|none=>bO P (d++a) b
 | [],b,d=>by simp[bO]
 | e::a,b,d=>by
  rw[TX,bO,bO]
  by_cases h:P d e=true
  rw[R7 h,R7 h]
  rw[R5 h,R5 h,km a b (d++[e]),S7]; rfl
def AP(d:VB Ed)(e:Ed):Bool:=d.any fun x=>decide (e.1=x.1)&&decide (e.2.1=x.2.1)
noncomputable def zk (pts:VB I2) (d:VB Ed) (e:Ed):Bool:=d.any fun x=>iI pts e x
section
variable{pts:VB I2}{F:VB Fc}(n:Nat)
end
def wR{P:VB Ed->Ed->Bool}{g:Nat->VB Ed}{d:VB Ed}{v:Int}{i:Nat}(h:bO P d (acc g i)=some v):∀k,bO P d (acc g (i+k))=some v
 | 0=>h
 | k+1=>by
  rw[<-Nat.add_assoc,acc,km,wR h k]
def ph{σ τ:Type}{B:(Int×σ)->VA ((Int×σ)⊕τ⊕σ)}{len:Nat}{P:VB Ed->Ed->Bool}{g:Nat->VB Ed}{d:VB Ed}(R:VB Ed->σ->Prop)(Q:τ->Int->Prop)
  (hB:∀i s,i<len->R (d++acc g i) s->(∃v t,bO P (d++acc g i) (g i)=some v/\B ((i:Int),s)=some (.inr (.inl t))/\Q t v) \/
   (bO P (d++acc g i) (g i)=none/\∃s',B ((i:Int),s)=some (.inl (((i+1:Nat):Int),s'))/\R (d++acc g i++g i) s'))
  (hE:∀s,R (d++acc g len) s->B ((len:Int),s)=some (.inr (.inr s))) :
  ∀(k i n:Nat) (s:σ),i+k=len->k<n->bO P d (acc g i)=none->R (d++acc g i) s ->
   (∃v t,bO P d (acc g len)=some v/\bK B n ((i:Int),s)=some (.inl t)/\Q t v)\/(bO P d (acc g len)=none/\∃s',bK B n ((i:Int),s)=some (.inr s')/\R (d++acc g len) s')
 | 0,i,n+1,s,h,_,h0,hr=>by
  rw[TB] at h; subst h;exact .inr ⟨h0,s,fC (hE s hr),hr⟩
 | k+1,i,n+1,s,h,hn,h0,hr=>by
  rcases hB i s (by omega) hr with⟨v,t,h1,h2,h3⟩|⟨h1,s',h2,h3⟩
  refine .inl ⟨v,t,?_,fC h2,h3⟩;have:bO P d (acc g (i+1))=some v:=by rw[acc,km,h0]; exact h1
  have:=wR this k;rw[show i+1+k=len by omega] at this
  exact this
  rw[fZ h2];exact ph R Q hB hE k (i+1) n s' (by omega) (by omega) (by rw[acc,km,h0]; exact h1) (by rw[acc,<-S7]; exact h3)
def pB{l:VB Int}{i:Nat}(hi:i<l.length):l[((i:Nat):Int).toNat]? = some (l.getD i 0)/\l[(((i+1)%l.length:Nat):Int).toNat]? = some (l.getD ((i+1)%l.length) 0):=by
 have hi2:(i+1)%l.length<l.length:=SY _ (by omega)
 exact⟨by rw[SG,Sc,R6 hi]; rfl,by rw[SG,Sc,R6 hi2]; rfl⟩
def ot(d:VB Ed)(m:VB ((Int×Int)×Bool)):Prop:=∀p:Int×Int,(dR m p).getD false=d.any fun x=>decide (p.1=x.1)&&decide (p.2=x.2.1)
def D3{d:VB Ed}{m:VB ((Int×Int)×Bool)}(h:ot d m)(e:Ed):ot (d++[e]) (iW m (e.1,e.2.1) true):=by
 intro p;rw[qx,List.any_append]
 by_cases hp:p=(e.1,e.2.1)
 rw[R7 hp,hp]; simp
 rw[R5 hp,h p];have:(decide (p.1=e.1)&&decide (p.2=e.2.1))=false:=by
  rw[<-S9,Sm];exact fun c=>hp (SO c.1 c.2)
 simp only[List.any_cons,List.any_nil,Bool.or_false,this]
section
variable{pts:VB I2}{F:VB Fc}(n:Nat)
def Hs{l:VB Int}{f r:Nat}{d:VB Ed}{m:VB ((Int×Int)×Bool)}(hm:ot d m)(hl:l.length<=40)(hn:1000<n) :
  (∃v t,bO AP d (rE l f r)=some v/\bK (q9 n l) n (0,m)=some (.inl t)/\v=(f:Int))\/(bO AP d (rE l f r)=none/\∃s',bK (q9 n l) n (0,m)=some (.inr s')/\ot (d++rE l f r) s'):=by
 refine ph (B:=q9 n l) (len:=l.length) (P:=AP) (g:=fun i=>[gV l f r i]) (d:=d) ot (fun _ v=>v=(f:Int)) (fun i s hi hs=>?_) (fun s hs=>?_) l.length 0 n m (by omega) (by omega) rfl (by rw[acc,SX]; exact hm)
 ·obtain⟨e1,e2⟩:=pB hi;have hi2:(i+1)%l.length<l.length:=SY _ (by omega)
  have hk:=hs (l.getD i 0,l.getD ((i+1)%l.length) 0);have hB:q9 n l ((i:Int),s)=if AP (d++acc (fun i=>[gV l f r i]) i) (gV l f r i) then some (.inr (.inl s)) else some (.inl (((i+1:Nat):Int),iW s (l.getD i 0,l.getD ((i+1)%l.length) 0) true)):=by
   unfold q9
   try dsimp only
   rw[aH (by omega)]
   simp only[aA hi,bc,e1,ai,av (show i<4611686018427387904 by omega)]
   rw[fM (by omega)]
   simp only[jZ,aA hi2,bc,e2,ai];rw[hk]
   show ob (br (AP (d++acc (fun i=>[gV l f r i]) i) (gV l f r i)) _ _) _=_
   cases AP (d++acc (fun i=>[gV l f r i]) i) (gV l f r i)<;>rfl
  by_cases c:AP (d++acc (fun i=>[gV l f r i]) i) (gV l f r i)=true
  rw[R7 c] at hB;exact .inl ⟨(f:Int),s,by rw[bO,R7 c]; rfl,hB,rfl⟩
  rw[R5 c] at hB;exact .inr ⟨by rw[bO,R5 c,bO],_,hB,D3 hs (gV l f r i)⟩
 ·unfold q9
  try dsimp only
  rw[aD (by omega)]
end
section
variable{pts:VB I2}{F:VB Fc}(n:Nat)
def Hd{rs:Uv}{f:Nat}{d:VB Ed}{m:VB ((Int×Int)×Bool)}(hm:ot d m)(h9:rs.length<=9)(h40:∀r,(rs.getD r []).length<=40)(hn:1000<n) :
  (∃v t,bO AP d (fE rs f)=some v/\bK (qR n rs) n (0,m)=some (.inl t)/\v=(f:Int))\/(bO AP d (fE rs f)=none/\∃s',bK (qR n rs) n (0,m)=some (.inr s')/\ot (d++fE rs f) s'):=by
 refine ph (B:=qR n rs) (len:=rs.length) (P:=AP) (g:=fun r=>rE (rs.getD r []) f r) (d:=d) ot (fun _ v=>v=(f:Int)) (fun i s hi hs=>?_) (fun s hs=>?_) rs.length 0 n m (by omega) (by omega) rfl (by rw[acc,SX]; exact hm)
 ·have hx:rs[i]? = some (rs.getD i []):=by rw[Sc,R6 hi]; rfl
  rcases Hs n (l:=rs.getD i []) (f:=f) (r:=i) hs (h40 i) hn with⟨v,t,h1,h2,h3⟩|⟨h1,s',h2,h3⟩
  ·refine .inl ⟨v,t,h1,?_,h3⟩;unfold qR
   try dsimp only
   rw[aH (by omega),aA hi,bc,bM hx,ai,h2,ai]
  ·refine .inr ⟨h1,s',?_,h3⟩;unfold qR
   try dsimp only
   rw[aH (by omega),aA hi,bc,bM hx,ai,h2,ai,av (by omega)]
 ·unfold qR
  try dsimp only
  rw[aD (by omega)]
def fA(hv:Fcs pts F)(i:Nat):(ak F i).length<=9/\∀r,((ak F i).getD r []).length<=40:=by
 unfold ak
 by_cases hi:i<F.length
 obtain⟨h8,h9⟩:=p8 (hv.ok _ (Su hi));have e:F.getD i ([],[])=F[i]:=by rw[Sc,R6 hi]; rfl
 rw[e];refine⟨by simp; omega,fun r=>?_⟩
 by_cases hr:r<(F[i].1::F[i].2).length
 have:=(kh rfl (h9 _ (Su hr))).2.2;rw[Sc,R6 hr]; exact this
 rw[Sc,Tc (by omega)]; simp
 rw[Sc,Tc (by omega)]
 refine⟨by simp,fun r=>?_⟩
 cases r<;>simp
def fX{i:Nat}(hi:i<F.length):F[i]? = some (F.getD i ([],[])):=by rw[Sc,R6 hi]; rfl
def j4(hv:Fcs pts F){i:Nat}(hn:1000<n):Bq n (F.getD i ([],[])).1 (F.getD i ([],[])).2=some (ak F i):=by
 have h3:=(fA hv i).1;unfold ak at h3;rw[SS] at h3;exact wL n _ _ (by omega) hn
def GJ(hv:Fcs pts F)(hn:1000<n) :
  (∃v t,bO AP [] (sE F)=some v/\bK (qY n F) n (0,[])=some (.inl t)/\v=t.1)\/(bO AP [] (sE F)=none/\∃s',bK (qY n F) n (0,[])=some (.inr s')/\ot ([]++sE F) s'):=by
 have hf:=hv.flen;refine ph (B:=qY n F) (len:=F.length) (P:=AP) (g:=fun f=>fE (ak F f) f) (d:=[]) ot (fun t v=>v=t.1) (fun i s hi hs=>?_) (fun s hs=>?_) F.length 0 n [] (by omega) (by omega) rfl (by rw[acc,SX]; intro p; simp[dR,cN])
 ·obtain⟨h9,h40⟩:=fA hv i;rcases Hd n (rs:=ak F i) (f:=i) hs h9 h40 hn with⟨v,t,h1,h2,h3⟩|⟨h1,s',h2,h3⟩
  ·refine .inl ⟨v,((i:Int),t),h1,?_,h3⟩;unfold qY
   try dsimp only
   rw[aH (by omega),aA hi,bc,bM (fX hi),ai]
   try dsimp only
   rw[j4 n hv hn,ai,h2,ai]
  ·refine .inr ⟨h1,s',?_,h3⟩;unfold qY
   try dsimp only
   rw[aH (by omega),aA hi,bc,bM (fX hi),ai]
   try dsimp only
   rw[j4 n hv hn,ai,h2,ai,av (by omega)]
 ·unfold qY
  try dsimp only
  rw[aD (by omega)]
end
section
variable{pts:VB I2}{F:VB Fc}(n:Nat)
def Fu(hb:ig pts){e:Ed}(he:Bi pts e){d:VB Ed}(hS:∀x∈d,Bi pts x)(hd:d.length<=50000)(hn:99999<n) :
  ∃w,bK (sP n d pts F e.1 e.2.1 e.2.2.1 e.2.2.2) n 0=some w/\(if zk pts d e then ∃j:Nat,w=.inl (j:Int) else w=.inr ()):=by
 have h1:bK (sP n d pts F e.1 e.2.1 e.2.2.1 e.2.2.2) n 0=some (cj (fun j=>match d[j]? with|some x=>if iI pts e x=true then some (.inl (j:Int)) else none|none=>none) (.inr ()) d.length 0):=by
  refine dx (len:=d.length) (fun j hj=>?_) ?_ d.length 0 n (by omega) (by omega)
  ·have hy:=R6 hj;generalize d[j]=x at hy;unfold sP
   try dsimp only
   rw[aH (by omega)]
   simp only[aA hj,bc,bM hy,ai,hy,av (show j<4611686018427387904 by omega)]
   rw[NB n hb he (hS x (SA hy)) (by omega),ai,ai]
   cases iI pts e x<;>rfl
  ·unfold sP
   try dsimp only
   rw[aD (by omega)]
 refine⟨_,h1,?_⟩;rcases db (f:=fun j=>match d[j]? with|some x=>if iI pts e x=true then some (.inl (j:Int)) else none|none=>none) (e:=(.inr ():Int⊕VC)) d.length 0 with⟨g1,g2⟩|⟨j,_,g2,g3⟩
 ·rw[g2,R5];intro h;obtain⟨x,hx,hq⟩:=List.any_eq_true.1 h;obtain⟨j,hj,ej⟩:=SF.1 hx;have:=g1 j (by omega) (by omega)
  try dsimp only at this
  rw[R6 hj,ej] at this
  try dsimp only at this
  rw[R7 hq] at this;cases this
 ·try dsimp only at g3
  rw[R6 (show j<d.length by omega)] at g3
  try dsimp only at g3
  by_cases g:iI pts e d[j]=true
  rw[R7 g] at g3;have hc:zk pts d e=true:=List.any_eq_true.2 ⟨_,Su _,g⟩;rw[R7 hc];exact⟨j,(Sb g3).symm⟩
  rw[R5 g] at g3; cases g3
def HU(hb:ig pts){l:VB Int}{f r:Nat}{d:VB Ed}(hS:∀x∈d,Bi pts x)(hS2:∀i,i<l.length->Bi pts (gV l f r i))(hd:d.length<=45000)(hl:l.length<=40)(hn:99999<n) :
  (∃v t,bO (zk pts) d (rE l f r)=some v/\bK (qV n l pts F (f:Int) (r:Int)) n (0,d)=some (.inl t)/\v=(f:Int))\/(bO (zk pts) d (rE l f r)=none/\∃s',bK (qV n l pts F (f:Int) (r:Int)) n (0,d)=some (.inr s')/\s'=d++rE l f r):=by
 refine ph (B:=qV n l pts F (f:Int) (r:Int)) (len:=l.length) (P:=zk pts) (g:=fun i=>[gV l f r i]) (d:=d) (fun d s=>s=d) (fun _ v=>v=(f:Int)) (fun i s hi hs=>?_) (fun s hs=>?_) l.length 0 n d (by omega) (by omega) rfl (by rw[acc,SX])
 ·subst hs;obtain⟨e1,e2⟩:=pB hi;have hi2:(i+1)%l.length<l.length:=SY _ (by omega)
  have ha:=jL (g:=fun i=>[gV l f r i]) (b:=1) (k:=i) fun i _=>by simp
  have hlen:(d++acc (fun i=>[gV l f r i]) i).length<=50000:=by rw[Sn]; omega
  have hS3:∀x∈d++acc (fun i=>[gV l f r i]) i,Bi pts x:=fun x hx=>by
   rcases St.1 hx with h|h
   exact hS x h
   ·have:∀k,k<=i->x∈acc (fun i=>[gV l f r i]) k->Bi pts x:=fun k=>by
     induction k with
     | zero=>intro _ h; cases h
     | succ k ih =>
      intro hk h;rw[acc,St,Se] at h;rcases h with h|h
      exact ih (by omega) h
      rw[h]; exact hS2 k (by omega)
    exact this i (Sa _) h
  generalize hD:d++acc (fun i=>[gV l f r i]) i=D at *;obtain⟨w,h1,h2⟩:=Fu (F:=F) n hb (hS2 i hi) hS3 hlen hn;have h1':bK (sP n D pts F (l.getD i 0) (l.getD ((i+1)%l.length) 0) (f:Int) (r:Int)) n 0=some w:=h1;have hB:qV n l pts F (f:Int) (r:Int) ((i:Int),D)=if zk pts D (gV l f r i) then some (.inr (.inl D)) else some (.inl (((i+1:Nat):Int),D++[gV l f r i])):=by
   unfold qV
   try dsimp only
   rw[aH (by omega)]
   simp only[aA hi,bc,e1,ai,av (show i<4611686018427387904 by omega)]
   rw[fM (by omega)]
   simp only[jZ,aA hi2,bc,e2,ai];rw[h1',ai]
   by_cases c:zk pts D (gV l f r i)=true
   rw[R7 c] at h2 ⊢;obtain⟨j,rfl⟩:=h2;simp only[ai,aH (show(0:Int)<=(j:Int) by omega)]
   rw[R5 c] at h2 ⊢;subst h2;simp only[ai,aD (show ¬(0:Int)<=-1 by decide)]
   rw[bw (by rw[Sn]; simp; omega),bc]
   rfl
  by_cases c:zk pts D (gV l f r i)=true
  rw[R7 c] at hB;exact .inl ⟨(f:Int),D,by rw[bO,R7 c]; rfl,hB,rfl⟩
  rw[R5 c] at hB;exact .inr ⟨by rw[bO,R5 c,bO],_,hB,rfl⟩
 ·unfold qV
  try dsimp only
  rw[aD (by omega)]
end
def fy{α:Type}{g:Nat->VB α}{x:α}:∀{k:Nat},x∈acc g k->∃i,i<k/\x∈g i
 | 0,h=>by cases h
 | k+1,h=>by
  rw[acc,St] at h;rcases h with h|h
  obtain⟨i,hi,hx⟩:=fy h;exact⟨i,by omega,hx⟩
  exact⟨k,by omega,h⟩
section
variable{pts:VB I2}{F:VB Fc}(n:Nat)
def Cm(hv:Fcs pts F){f r:Nat}(hf:f<F.length)(hr:r<(ak F f).length):vu pts.length ((ak F f).getD r [])=true/\xC (dG pts ((ak F f).getD r []) 1):=by
 have e:F.getD f ([],[])=F[f]:=by rw[Sc,R6 hf]; rfl
 unfold ak at hr ⊢;rw[e] at hr ⊢;have e2:(F[f].1::F[f].2).getD r []=(F[f].1::F[f].2)[r]:=by rw[Sc,R6 hr]; rfl
 rw[e2];exact⟨(p8 (hv.ok _ (Su hf))).2 _ (Su hr),of_decide_eq_true (Sp.1 (hv.va _ (Su hf)) _ (Su hr))⟩
def yn{l:VB Int}{i:Nat}(hi:i<l.length):nx (dG pts l 1) i=eO pts (l.getD i 0):=by
 unfold nx dG;rw[Si,TO hi,Sc,S5,Sc,R6 hi];simp
def wX(hv:Fcs pts F){f r i:Nat}(hf:f<F.length)(hr:r<(ak F f).length)(hi:i<((ak F f).getD r []).length):Bi pts (gV ((ak F f).getD r []) f r i):=by
 obtain⟨h1,h2⟩:=Cm hv hf hr;generalize(ak F f).getD r []=l at *;obtain⟨hx,h3,h4⟩:=kh rfl h1;have hi2:(i+1)%l.length<l.length:=SY _ (by omega)
 have gm:∀k,k<l.length->l.getD k 0∈l:=fun k hk=>by
  rw[Sc,R6 hk]; exact Su _
 refine⟨hx _ (gm i hi),hx _ (gm _ hi2),?_⟩;have hs:=(xT.1 h2).vr.still i;rw[yn hi] at hs;have:nx (dG pts l 1) (i+1)=eO pts (l.getD ((i+1)%l.length) 0):=by
  rw[<-yn hi2];exact jh _ (by rw[dZ,Nat.mod_mod])
 rw[this] at hs;exact hs
def HI(hv:Fcs pts F){f:Nat}(hf:f<F.length){k:Nat}(hk:k<=(ak F f).length):∀x∈acc (fun r=>rE ((ak F f).getD r []) f r) k,Bi pts x:=fun x hx=>by
 obtain⟨r,hr,h⟩:=fy hx;obtain⟨i,hi,h⟩:=fy h;rw[Se] at h;rw[h];exact wX hv hf (by omega) hi
def Bb(hv:Fcs pts F){k:Nat}(hk:k<=F.length):∀x∈acc (fun f=>fE (ak F f) f) k,Bi pts x:=fun x hx=>by
 obtain⟨f,hf,h⟩:=fy hx;exact HI hv (by omega) (Sa _) x h
def Ft(hv:Fcs pts F){f:Nat}(hf:f<F.length){d:VB Ed}(hS:∀x∈d,Bi pts x)(hd:d.length<=40000)(hn:99999<n) :
  (∃v t,bO (zk pts) d (fE (ak F f) f)=some v/\bK (q8 n (ak F f) pts F (f:Int)) n (0,d)=some (.inl t)/\v=(f:Int))\/(bO (zk pts) d (fE (ak F f) f)=none/\∃s',bK (q8 n (ak F f) pts F (f:Int)) n (0,d)=some (.inr s')/\s'=d++fE (ak F f) f):=by
 obtain⟨h9,h40⟩:=fA hv f;refine ph (B:=q8 n (ak F f) pts F (f:Int)) (len:=(ak F f).length) (P:=zk pts) (g:=fun r=>rE ((ak F f).getD r []) f r) (d:=d) (fun d s=>s=d) (fun _ v=>v=(f:Int)) (fun i s hi hs=>?_) (fun s hs=>?_) (ak F f).length 0 n d (by omega) (by omega) rfl (by rw[acc,SX])
 ·subst hs;have hx:(ak F f)[i]? = some ((ak F f).getD i []):=by rw[Sc,R6 hi]; rfl
  have ha:=jL (g:=fun r=>rE ((ak F f).getD r []) f r) (b:=40) (k:=i) fun r _=>SI HY (h40 r);rcases HU (F:=F) n hv.near (l:=(ak F f).getD i []) (f:=f) (r:=i) (d:=d++acc (fun r=>rE ((ak F f).getD r []) f r) i) (fun x hx=>(St.1 hx).elim (hS x) (HI hv hf (by omega) x)) (fun j hj=>wX hv hf hi hj) (by rw[Sn]; omega) (h40 i) hn with⟨v,t,h1,h2,h3⟩|⟨h1,s',h2,h3⟩
  ·refine .inl ⟨v,t,h1,?_,h3⟩;unfold q8
   try dsimp only
   rw[aH (by omega),aA hi,bc,bM hx,ai,h2,ai]
  ·refine .inr ⟨h1,s',?_,h3⟩;unfold q8
   try dsimp only
   rw[aH (by omega),aA hi,bc,bM hx,ai,h2,ai,av (by omega)]
 ·unfold q8
  try dsimp only
  rw[aD (by omega)]
def HE(hv:Fcs pts F)(hn:99999<n) :
  (∃v t,bO (zk pts) [] (sE F)=some v/\bK (rq n F pts) n (0,[])=some (.inl t)/\v=t.1)\/(bO (zk pts) [] (sE F)=none/\∃s',bK (rq n F pts) n (0,[])=some (.inr s')/\s'=[]++sE F):=by
 have hfl:=hv.flen;refine ph (B:=rq n F pts) (len:=F.length) (P:=zk pts) (g:=fun f=>fE (ak F f) f) (d:=[]) (fun d s=>s=d) (fun t v=>v=t.1) (fun i s hi hs=>?_) (fun s hs=>?_) F.length 0 n [] (by omega) (by omega) rfl (by rw[acc,SX])
 ·subst hs;have ha:=jL (g:=fun f=>fE (ak F f) f) (b:=360) (k:=i) fun j _=>by
   have h1:=jL (g:=fun r=>rE ((ak F j).getD r []) j r) (b:=40) (k:=(ak F j).length) fun r _=>SI HY ((fA hv j).2 r);have h2:=(fA hv j).1;unfold fE; omega
  rcases Ft n hv hi (d:=[]++acc (fun f=>fE (ak F f) f) i) (fun x hx=>Bb hv (k:=i) (by omega) x (by rwa[Ty] at hx)) (by rw[Ty]; omega) hn with⟨v,t,h1,h2,h3⟩|⟨h1,s',h2,h3⟩
  ·refine .inl ⟨v,((i:Int),t),h1,?_,h3⟩;unfold rq
   try dsimp only
   rw[aH (by omega),aA hi,bc,bM (fX hi),ai]
   try dsimp only
   rw[j4 n hv (by omega),ai,h2,ai]
  ·refine .inr ⟨h1,s',?_,h3⟩;unfold rq
   try dsimp only
   rw[aH (by omega),aA hi,bc,bM (fX hi),ai]
   try dsimp only
   rw[j4 n hv (by omega),ai,h2,ai,av (by omega)]
 ·unfold rq
  try dsimp only
  rw[aD (by omega)]
end
def yl(pts:VB I2)(l:VB Int):dG pts l 2=(dG pts l 1).map (bE 2):=by
 unfold dG;rw[Uf];refine List.map_congr_left fun i _=>SO ?_ ?_
 show 2*_=1*_*2; omega
 show 2*_=1*_*2; omega
section
variable{pts:VB I2}{F:VB Fc}(n:Nat)
def LF(hb:ig pts){l:VB Int}(hx:Ix pts l)(h3:3<=l.length)(i:Nat):Nw (nx (dG pts l 2) i):=by
 have hne:dG pts l 1≠[]:=fun e=>by have:=dZ pts l 1; rw[e] at this; simp at this; omega
 rw[yl,bf _ hne];have:=xX hb hx h3 i;unfold Nr at this;unfold Nw bE
 dsimp only
 omega
def rC(pts:VB I2)(e:Ed):I2:=((eO pts e.1).1+(eO pts e.2.1).1,(eO pts e.1).2+(eO pts e.2.1).2)
def Hf(hb:ig pts){e:Ed}(he:Bi pts e):Nw (rC pts e):=by
 have h1:=ja hb he.1;have h2:=ja hb he.2.1;unfold Nr at h1 h2;unfold Nw rC
 dsimp only
 omega
def Dm(hb:ig pts){l:VB Int}(h:vu pts.length l=true){p:I2}(hp:Nw p)(hn:1000<n):K1 n (dG pts l 2) p.1 p.2=some (side (dG pts l 2) p):=by
 obtain⟨hx,h3,h4⟩:=kh rfl h;exact Ge n (fun i=>LF hb hx h3 i) hp (by rw[dZ]; omega) (by rw[dZ]; omega)
end
noncomputable def Fl (pts:VB I2) (o:VB Int) (h:Uv) (p:I2):Bool:=decide (side (dG pts o 2) p=2)&&h.all fun l=>decide (side (dG pts l 2) p=0)
section
variable{pts:VB I2}{F:VB Fc}(n:Nat)
def HM(hb:ig pts){o:VB Int}{h:Uv}(ho:vu pts.length o=true)(hh:∀l∈h,vu pts.length l=true)(h8:h.length<=8){p:I2}(hp:Nw p)(hn:1000<n):I8 n pts F o h p.1 p.2 2=some (Fl pts o h p):=by
 obtain⟨hx,h3,h4⟩:=kh rfl ho;unfold I8 Fl;rw[ug n hb hx (.inr rfl) (by omega) (by omega),ai,Dm n hb ho hp hn,ai]
 by_cases c:side (dG pts o 2) p=2
 ·rw[aH c,Sd c,TL];have hl:bK (zV n h pts F 2 p.1 p.2) n 0=some (cj (fun i=>match h[i]? with|some l=>if decide (side (dG pts l 2) p=0)=true then none else some (.inl (i:Int))|none=>none) (.inr ()) h.length 0):=by
   refine dx (len:=h.length) (fun i hi=>?_) ?_ h.length 0 n (by omega) (by omega)
   ·have hy:=R6 hi;generalize h[i]=l at hy;obtain⟨gx,g3,g4⟩:=kh rfl (hh l (SA hy));unfold zV
    try dsimp only
    rw[aH (by omega),aA hi,bc,bM hy,ai,ug n hb gx (.inr rfl) (by omega) (by omega),ai,Dm n hb (hh l (SA hy)) hp hn,ai,ai,av (by omega),hy]
    try dsimp only
    cases decide (side (dG pts l 2) p=0)<;>rfl
   ·unfold zV
    try dsimp only
    rw[aD (by omega)]
  rw[hl,ai];rcases db (f:=fun i=>match h[i]? with|some l=>if decide (side (dG pts l 2) p=0)=true then none else some (.inl (i:Int))|none=>none) (e:=(.inr ():Int⊕VC)) h.length 0 with⟨g1,g2⟩|⟨j,_,g2,g3⟩
  ·rw[g2];have:(h.all fun l=>decide (side (dG pts l 2) p=0))=true:=Sp.2 fun l hl=>by
    obtain⟨j,hj,ej⟩:=SF.1 hl;have:=g1 j (by omega) (by omega)
    try dsimp only at this
    rw[R6 hj,ej] at this
    try dsimp only at this
    refine R8 fun hc=>?_;rw[R5 hc] at this; cases this
   rw[this]; rfl
  ·have hj:j<h.length:=by omega
   try dsimp only at g3
   rw[R6 hj] at g3
   try dsimp only at g3
   by_cases g:decide (side (dG pts h[j] 2) p=0)=true
   rw[R7 g] at g3; cases g3
   rw[R5 g] at g3;have e:=(Sb g3).symm;rw[e];have:(h.all fun l=>decide (side (dG pts l 2) p=0))=false:=by
    cases ha:h.all fun l=>decide (side (dG pts l 2) p=0)
    rfl
    exact Sw (Sp.1 ha _ (Su hj)) g
   rw[this,ai,Sm (by omega)]
 rw[aD c,Sm c]; rfl
end
def k8{τ:Type}{B:Int->VA (Int⊕τ⊕VC)}{len:Nat}{P:VB Ed->Ed->Bool}{g:Nat->VB Ed}{d:VB Ed}(Q:τ->Int->Prop)
  (hB:∀i:Nat,i<len->(∃v t,bO P (d++acc g i) (g i)=some v/\B (i:Int)=some (.inr (.inl t))/\Q t v)\/(bO P (d++acc g i) (g i)=none/\B (i:Int)=some (.inl ((i+1:Nat):Int))))
  (hE:B (len:Int)=some (.inr (.inr ()))) :
  ∀(k i n:Nat),i+k=len->k<n->bO P d (acc g i)=none ->
   (∃v t,bO P d (acc g len)=some v/\bK B n (i:Int)=some (.inl t)/\Q t v)\/(bO P d (acc g len)=none/\bK B n (i:Int)=some (.inr ()))
 | 0,i,n+1,h,_,h0=>by
  rw[TB] at h; subst h;exact .inr ⟨h0,fC hE⟩
 | k+1,i,n+1,h,hn,h0=>by
  rcases hB i (by omega) with⟨v,t,h1,h2,h3⟩|⟨h1,h2⟩
  refine .inl ⟨v,t,?_,fC h2,h3⟩;have:bO P d (acc g (i+1))=some v:=by rw[acc,km,h0]; exact h1
  have:=wR this k;rw[show i+1+k=len by omega] at this
  exact this
  rw[fZ h2];exact k8 Q hB hE k (i+1) n (by omega) (by omega) (by rw[acc,km,h0]; exact h1)
noncomputable def uV (pts:VB I2) (F:VB Fc) (_:VB Ed) (e:Ed):Bool:=!decide (e.2.2.2=0) && !Fl pts (F.getD e.2.2.1.toNat ([],[])).1 ((F.getD e.2.2.1.toNat ([],[])).2.take (e.2.2.2-1).toNat++(F.getD e.2.2.1.toNat ([],[])).2.drop e.2.2.2.toNat) (rC pts e)
section
variable{pts:VB I2}{F:VB Fc}(n:Nat)
def L3{h:Uv}{r:Nat}(h0:r≠0)(h1:r<=h.length)(h8:h.length<=8):PC n h (UE ((r:Int)-1)) (r:Int)=some (h.take ((r:Int)-1).toNat++h.drop ((r:Nat):Int).toNat):=by
 rw[aF (by omega) (by omega)]
 unfold PC;rw[Sd (show 0<h.length by omega),Sd (show(0:Int)<=(r:Int)-1 by omega),Sd (show(r:Int)-1<=(r:Int) by omega),Sd (show(r:Int)<=(h.length:Int) by omega),bw (by omega)]
 rfl
def Df(hv:Fcs pts F){f:Nat}(hf:f<F.length):vu pts.length (F.getD f ([],[])).1=true/\(F.getD f ([],[])).2.length<=8/\∀l ∈(F.getD f ([],[])).2,vu pts.length l=true:=by
 have e:F.getD f ([],[])=F[f]:=by rw[Sc,R6 hf]; rfl
 rw[e];obtain⟨h8,h9⟩:=p8 (hv.ok _ (Su hf));exact⟨h9 _ (Sv ..),h8,fun l hl=>h9 l (Sf _ hl)⟩
def FP(hv:Fcs pts F){f r:Nat}(hf:f<F.length)(hr:r<(ak F f).length){d:VB Ed}(hn:99999<n) :
  (∃v t,bO (uV pts F) d (rE ((ak F f).getD r []) f r)=some v/\bK (qO n ((ak F f).getD r []) (r:Int) (f:Int) F (F.getD f ([],[])).2 pts (F.getD f ([],[])).1) n 0=some (.inl t)/\v=(f:Int)) \/
  (bO (uV pts F) d (rE ((ak F f).getD r []) f r)=none/\bK (qO n ((ak F f).getD r []) (r:Int) (f:Int) F (F.getD f ([],[])).2 pts (F.getD f ([],[])).1) n 0=some (.inr ())):=by
 have h40:=(fA hv f).2 r;have hs:=fun i=>wX (i:=i) hv hf hr;obtain⟨ho,h8,hh⟩:=Df hv hf;have hrl:r<=(F.getD f ([],[])).2.length:=by unfold ak at hr; rw[SS] at hr; omega
 generalize(ak F f).getD r []=l at *;refine k8 (B:=qO n l (r:Int) (f:Int) F (F.getD f ([],[])).2 pts (F.getD f ([],[])).1) (len:=l.length) (P:=uV pts F) (g:=fun i=>[gV l f r i]) (d:=d) (fun _ v=>v=(f:Int)) (fun i hi=>?_) ?_ l.length 0 n (by omega) (by omega) rfl
 ·obtain⟨e1,e2⟩:=pB hi;have hi2:(i+1)%l.length<l.length:=SY _ (by omega)
  have hS:=hs i hi;have hB:qO n l (r:Int) (f:Int) F (F.getD f ([],[])).2 pts (F.getD f ([],[])).1 (i:Int)=if uV pts F (d++acc (fun i=>[gV l f r i]) i) (gV l f r i) then some (.inr (.inl ())) else some (.inl ((i+1:Nat):Int)):=by
   have hx:(gV l f r i).1=l.getD i 0:=rfl;have hy:(gV l f r i).2.1=l.getD ((i+1)%l.length) 0:=rfl;unfold qO
   try dsimp only
   rw[aH (by omega)]
   simp only[aA hi,bc,e1,ai,av (show i<4611686018427387904 by omega)]
   rw[fM (by omega)]
   simp only[jZ,aA hi2,bc,e2,ai];rw[<-hx,<-hy]
   by_cases r0:r=0
   subst r0;rw[aH (by omega),ai]
   have:uV pts F (d++acc (fun i=>[gV l f 0 i]) i) (gV l f 0 i)=false:=by unfold uV gV; rfl
   rw[this]; rfl
   ·have hP:uV pts F (d++acc (fun i=>[gV l f r i]) i) (gV l f r i) = !Fl pts (F.getD f ([],[])).1 ((F.getD f ([],[])).2.take ((r:Int)-1).toNat++(F.getD f ([],[])).2.drop ((r:Nat):Int).toNat) (rC pts (gV l f r i)):=by
     unfold uV
     show(!decide ((r:Int)=0)&&_)=_
     rw[Sm (by omega)]; rfl
    rw[aD (by omega),aA hf,bc,show Qo n (F.getD f ([],[])).2=some (F.getD f ([],[])).2 by unfold Qo; rw[bw (by omega)]; rfl,ai,L3 n r0 hrl h8,ai,Ay hS.1,bc,oC hS.1,ai]
    try dsimp only
    rw[Ay hS.2.1,bc,oC hS.2.1,ai]
    try dsimp only
    have h1:=ja hv.near hS.1;have h2:=ja hv.near hS.2.1;unfold Nr at h1 h2;rw[aF (by omega) (by omega),aF (by omega) (by omega),ai]
    try dsimp only
    have h59:I8 n pts F (F.getD f ([],[])).1 ((F.getD f ([],[])).2.take ((r:Int)-1).toNat++(F.getD f ([],[])).2.drop ((r:Nat):Int).toNat) ((eO pts (gV l f r i).1).1+(eO pts (gV l f r i).2.1).1) ((eO pts (gV l f r i).1).2+(eO pts (gV l f r i).2.1).2) 2=some _ :=
     HM (F:=F) (p:=rC pts (gV l f r i)) n hv.near ho (fun l hl=>(St.1 hl).elim (fun h=>hh l (Tq h)) (fun h=>hh l (TF h))) (by rw[Sn,Sq,SZ]; omega) (Hf hv.near hS) (by omega)
    rw[h59,ai,hP];cases Fl pts (F.getD f ([],[])).1 ((F.getD f ([],[])).2.take ((r:Int)-1).toNat++(F.getD f ([],[])).2.drop ((r:Nat):Int).toNat) (rC pts (gV l f r i))<;>rfl
  by_cases c:uV pts F (d++acc (fun i=>[gV l f r i]) i) (gV l f r i)=true
  rw[R7 c] at hB;exact .inl ⟨(f:Int),(),by rw[bO,R7 c]; rfl,hB,rfl⟩
  rw[R5 c] at hB;exact .inr ⟨by rw[bO,R5 c,bO],hB⟩
 ·unfold qO
  try dsimp only
  rw[aD (by omega)]
def FA(hv:Fcs pts F){f:Nat}(hf:f<F.length){d:VB Ed}(hn:99999<n) :
  (∃v t,bO (uV pts F) d (fE (ak F f) f)=some v/\bK (qS n (ak F f) (f:Int) F (F.getD f ([],[])).2 pts (F.getD f ([],[])).1) n 0=some (.inl t)/\v=(f:Int)) \/
  (bO (uV pts F) d (fE (ak F f) f)=none/\bK (qS n (ak F f) (f:Int) F (F.getD f ([],[])).2 pts (F.getD f ([],[])).1) n 0=some (.inr ())):=by
 obtain⟨h9,h40⟩:=fA hv f;refine k8 (B:=qS n (ak F f) (f:Int) F (F.getD f ([],[])).2 pts (F.getD f ([],[])).1) (len:=(ak F f).length) (P:=uV pts F) (g:=fun r=>rE ((ak F f).getD r []) f r) (d:=d) (fun _ v=>v=(f:Int)) (fun i hi=>?_) ?_ (ak F f).length 0 n (by omega) (by omega) rfl
 ·have hx:(ak F f)[i]? = some ((ak F f).getD i []):=by rw[Sc,R6 hi]; rfl
  rcases FP n hv hf hi (d:=d++acc (fun r=>rE ((ak F f).getD r []) f r) i) hn with⟨v,t,h1,h2,h3⟩|⟨h1,h2⟩
  ·refine .inl ⟨v,(),h1,?_,h3⟩;unfold qS
   try dsimp only
   rw[aH (by omega),aA hi,bc,bM hx,ai,h2,ai]
  ·refine .inr ⟨h1,?_⟩;unfold qS
   try dsimp only
   rw[aH (by omega),aA hi,bc,bM hx,ai,h2,ai,av (by omega)]
 ·unfold qS
  try dsimp only
  rw[aD (by omega)]
def DS(hv:Fcs pts F)(hn:99999<n) :
  (∃v t,bO (uV pts F) [] (sE F)=some v/\bK (mc n F pts) n 0=some (.inl t)/\v=t)\/(bO (uV pts F) [] (sE F)=none/\bK (mc n F pts) n 0=some (.inr ())):=by
 have hfl:=hv.flen;refine k8 (B:=mc n F pts) (len:=F.length) (P:=uV pts F) (g:=fun f=>fE (ak F f) f) (d:=[]) (fun t v=>v=t) (fun i hi=>?_) ?_ F.length 0 n (by omega) (by omega) rfl
 ·rcases FA n hv hi (d:=[]++acc (fun f=>fE (ak F f) f) i) hn with⟨v,t,h1,h2,h3⟩|⟨h1,h2⟩
  ·refine .inl ⟨v,(i:Int),h1,?_,h3⟩;unfold mc
   try dsimp only
   rw[aH (by omega),aA hi,bc,bM (fX hi),ai]
   try dsimp only
   rw[j4 n hv (by omega),ai,h2,ai]
  ·refine .inr ⟨h1,?_⟩;unfold mc
   try dsimp only
   rw[aH (by omega),aA hi,bc,bM (fX hi),ai]
   try dsimp only
   rw[j4 n hv (by omega),ai,h2,ai,av (by omega)]
 ·unfold mc
  try dsimp only
  rw[aD (by omega)]
end
def GB{ρ:Type}{r:ρ⊕VC}{q:Nat->Bool}{f:Nat->VA (ρ⊕VC)}{len:Nat}(hf:∀i,i<len->f i=if q i then some r else none):cj f (.inr ()) len 0=if(List.range len).any q then r else .inr ():=by
 rcases db (f:=f) (e:=.inr ()) len 0 with⟨h1,h2⟩|⟨j,_,h2,h3⟩
 rw[h2,R5];intro h;obtain⟨i,hi,hq⟩:=List.any_eq_true.1 h;rw[SM] at hi;have:=h1 i (by omega) (by omega)
 rw[hf i hi,R7 hq] at this; cases this
 have hj:j<len:=by omega
 rw[hf j hj] at h3
 by_cases g:q j=true
 rw[R7 g] at h3;rw[R7 (List.any_eq_true.2 ⟨j,SM.2 hj,g⟩)];exact(Sb h3).symm
 rw[R5 g] at h3; cases h3
noncomputable def NN (pts:VB I2) (F:VB Fc) (e:Ed) (i:Nat):Bool:=!decide ((i:Int)=e.2.2.1)&&Fl pts (F.getD i ([],[])).1 (F.getD i ([],[])).2 (rC pts e)
noncomputable def zM (pts:VB I2) (F:VB Fc) (_:VB Ed) (e:Ed):Bool:=(List.range F.length).any (NN pts F e)
section
variable{pts:VB I2}{F:VB Fc}(n:Nat)
def Dt(hv:Fcs pts F){e:Ed}(hS:Bi pts e)(hn:99999<n):bK (sQ n F e.2.2.1 e.1 pts e.2.1) n 0=some (if(List.range F.length).any (NN pts F e) then .inl () else .inr ()):=by
 have hfl:=hv.flen;rw[<-GB (r:=(.inl ():VC⊕VC)) (q:=NN pts F e) (f:=fun i=>if NN pts F e i then some (.inl ()) else none) (len:=F.length) (fun i _=>rfl)]
 refine dx (len:=F.length) (fun i hi=>?_) ?_ F.length 0 n (by omega) (by omega)
 ·obtain⟨ho,h8,hh⟩:=Df hv hi;unfold sQ
  try dsimp only
  rw[aH (by omega),aA hi,bc,bM (fX hi),ai]
  try dsimp only
  unfold NN
  by_cases c:(i:Int)=e.2.2.1
  rw[Sd c];simp only[S0,jl,ai,Bool.false_and,SC,if_false];rw[av (by omega)]
  ·rw[Sm c];rw[SV,lN,Ay hS.1,bc,oC hS.1,ai]
   try dsimp only
   rw[Ay hS.2.1,bc,oC hS.2.1,ai]
   try dsimp only
   have h1:=ja hv.near hS.1;have h2:=ja hv.near hS.2.1;unfold Nr at h1 h2;rw[aF (x:=(eO pts e.1).1+(eO pts e.2.1).1) (by omega) (by omega),aF (x:=(eO pts e.1).2+(eO pts e.2.1).2) (by omega) (by omega),ai]
   try dsimp only
   have h59:I8 n pts F (F.getD i ([],[])).1 (F.getD i ([],[])).2 ((eO pts e.1).1+(eO pts e.2.1).1) ((eO pts e.1).2+(eO pts e.2.1).2) 2=some _:=HM (F:=F) (p:=rC pts e) n hv.near ho hh h8 (Hf hv.near hS) (by omega)
   rw[h59,ai,ai,av (by omega),TL]
   cases Fl pts (F.getD i ([],[])).1 (F.getD i ([],[])).2 (rC pts e)<;>rfl
 ·unfold sQ
  try dsimp only
  rw[aD (by omega)]
def DM(hv:Fcs pts F){f r:Nat}(hf:f<F.length)(hr:r<(ak F f).length){d:VB Ed}(hn:99999<n) :
  (∃v t,bO (zM pts F) d (rE ((ak F f).getD r []) f r)=some v/\bK (mS n ((ak F f).getD r []) F (f:Int) pts) n 0=some (.inl t)/\v=(f:Int)) \/
  (bO (zM pts F) d (rE ((ak F f).getD r []) f r)=none/\bK (mS n ((ak F f).getD r []) F (f:Int) pts) n 0=some (.inr ())):=by
 have h40:=(fA hv f).2 r;have hs:=fun i=>wX (i:=i) hv hf hr;generalize(ak F f).getD r []=l at *;refine k8 (B:=mS n l F (f:Int) pts) (len:=l.length) (P:=zM pts F) (g:=fun i=>[gV l f r i]) (d:=d) (fun _ v=>v=(f:Int)) (fun i hi=>?_) ?_ l.length 0 n (by omega) (by omega) rfl
 ·obtain⟨e1,e2⟩:=pB hi;have hi2:(i+1)%l.length<l.length:=SY _ (by omega)
  have hS:=hs i hi;have h11:=Dt n hv hS hn;have hB:mS n l F (f:Int) pts (i:Int)=if zM pts F (d++acc (fun i=>[gV l f r i]) i) (gV l f r i) then some (.inr (.inl ())) else some (.inl ((i+1:Nat):Int)):=by
   unfold mS
   try dsimp only
   rw[aH (by omega)]
   simp only[aA hi,bc,e1,ai,av (show i<4611686018427387904 by omega)]
   rw[fM (by omega)]
   simp only[jZ,aA hi2,bc,e2,ai];unfold zM;unfold gV at h11 ⊢
   dsimp only at h11
   rw[h11];cases(List.range F.length).any (NN pts F (l.getD i 0,l.getD ((i+1)%l.length) 0,(f:Int),(r:Int)))<;>rfl
  by_cases c:zM pts F (d++acc (fun i=>[gV l f r i]) i) (gV l f r i)=true
  rw[R7 c] at hB;exact .inl ⟨(f:Int),(),by rw[bO,R7 c]; rfl,hB,rfl⟩
  rw[R5 c] at hB;exact .inr ⟨by rw[bO,R5 c,bO],hB⟩
 ·unfold mS
  try dsimp only
  rw[aD (by omega)]
def Dz(hv:Fcs pts F){f:Nat}(hf:f<F.length){d:VB Ed}(hn:99999<n) :
  (∃v t,bO (zM pts F) d (fE (ak F f) f)=some v/\bK (lV n (ak F f) F (f:Int) pts) n 0=some (.inl t)/\v=(f:Int)) \/
  (bO (zM pts F) d (fE (ak F f) f)=none/\bK (lV n (ak F f) F (f:Int) pts) n 0=some (.inr ())):=by
 obtain⟨h9,h40⟩:=fA hv f;refine k8 (B:=lV n (ak F f) F (f:Int) pts) (len:=(ak F f).length) (P:=zM pts F) (g:=fun r=>rE ((ak F f).getD r []) f r) (d:=d) (fun _ v=>v=(f:Int)) (fun i hi=>?_) ?_ (ak F f).length 0 n (by omega) (by omega) rfl
 ·have hx:(ak F f)[i]? = some ((ak F f).getD i []):=by rw[Sc,R6 hi]; rfl
  rcases DM n hv hf hi (d:=d++acc (fun r=>rE ((ak F f).getD r []) f r) i) hn with⟨v,t,h1,h2,h3⟩|⟨h1,h2⟩
  ·refine .inl ⟨v,(),h1,?_,h3⟩;unfold lV
   try dsimp only
   rw[aH (by omega),aA hi,bc,bM hx,ai,h2,ai]
  ·refine .inr ⟨h1,?_⟩;unfold lV
   try dsimp only
   rw[aH (by omega),aA hi,bc,bM hx,ai,h2,ai,av (by omega)]
 ·unfold lV
  try dsimp only
  rw[aD (by omega)]
def DQ(hv:Fcs pts F)(hn:99999<n) :
  (∃v t,bO (zM pts F) [] (sE F)=some v/\bK (mX n F pts) n 0=some (.inl t)/\v=t)\/(bO (zM pts F) [] (sE F)=none/\bK (mX n F pts) n 0=some (.inr ())):=by
 have hfl:=hv.flen;refine k8 (B:=mX n F pts) (len:=F.length) (P:=zM pts F) (g:=fun f=>fE (ak F f) f) (d:=[]) (fun t v=>v=t) (fun i hi=>?_) ?_ F.length 0 n (by omega) (by omega) rfl
 ·rcases Dz n hv hi (d:=[]++acc (fun f=>fE (ak F f) f) i) hn with⟨v,t,h1,h2,h3⟩|⟨h1,h2⟩
  ·refine .inl ⟨v,(i:Int),h1,?_,h3⟩;unfold mX
   try dsimp only
   rw[aH (by omega),aA hi,bc,bM (fX hi),ai]
   try dsimp only
   rw[j4 n hv (by omega),ai,h2,ai]
  ·refine .inr ⟨h1,?_⟩;unfold mX
   try dsimp only
   rw[aH (by omega),aA hi,bc,bM (fX hi),ai]
   try dsimp only
   rw[j4 n hv (by omega),ai,h2,ai,av (by omega)]
 ·unfold mX
  try dsimp only
  rw[aD (by omega)]
end
section
variable{pts:VB I2}{F:VB Fc}(n:Nat)
def R2(F:VB Fc)(e:Ed):Prop:=∃f r k:Nat,f<F.length/\r<(ak F f).length/\k<((ak F f).getD r []).length/\e=gV ((ak F f).getD r []) f r k
def xJ{k:Nat}(hk:k<=F.length):∀x∈acc (fun f=>fE (ak F f) f) k,R2 F x:=fun x hx=>by
 obtain⟨f,hf,h⟩:=fy hx;obtain⟨r,hr,h⟩:=fy h;obtain⟨i,hi,h⟩:=fy h;exact⟨f,r,i,by omega,hr,hi,by simpa using h⟩
def pC(hv:Fcs pts F){f:Nat}(hf:f<F.length):∀l∈ak F f,vu pts.length l=true/\xC (dG pts l 1):=fun l hl=>by
 obtain⟨r,hr,e⟩:=SF.1 hl;have:=Cm hv hf hr;rw[Sc,R6 hr] at this;rw[<-e]; exact this
noncomputable def Lk (pts:VB I2) (F:VB Fc):Int×Int:=match bO AP [] (sE F) with
 | some v=>(7,v)
 | none=>match bO (zk pts) [] (sE F) with
  | some v=>(8,v)
  | none=>match bO (uV pts F) [] (sE F) with
   | some v=>(9,v)
   | none=>match bO (zM pts F) [] (sE F) with
    | some v=>(10,v)
    | none=>(0,0)
def NU(hv:Fcs pts F)(hn:99999<n):Ps n pts F=some (Lk pts F):=by
 unfold Ps Lk;rw[ai];rcases GJ n hv (by omega) with⟨v,t,a1,a2,a3⟩|⟨a1,s,a2,a3⟩
 rw[a2,a1,a3]; rfl
 rw[a2,a1,ai];simp only[ai];rcases HE n hv hn with⟨v,t,b1,b2,b3⟩|⟨b1,s,b2,b3⟩
 rw[b2,b1,b3]; rfl
 rw[b2,b1,ai];simp only[ai];rcases DS n hv hn with⟨v,t,c1,c2,c3⟩|⟨c1,c2⟩
 rw[c2,c1,c3]; rfl
 rw[c2,c1,ai];simp only[ai];rcases DQ n hv hn with⟨v,t,d1,d2,d3⟩|⟨d1,d2⟩
 rw[d2,d1,d3]; rfl
 rw[d2,d1]; rfl
end
section
variable(n:Nat)
def Pp(f:Fc):Prop:=f.1.length<=1000/\f.2.length<=1000/\∀h∈f.2,h.length<=1000
def Jr(c:VB I2×VB Fc):Prop:=c.1.length<=1000/\c.2.length<=1000/\∀f∈c.2,Pp f
end
def nO{α:Type}(l:VB α)(k:Nat):(Vh l k)=l.take k:=by
 show l.take ((mi (l.length:Int) (k:Int)).toNat-0)=_
 rw[iE,TN];rcases Nat.le_total l.length k with g|g
 rw[TG (by omega),TG g]
 rw[show(min (l.length:Int) (k:Int)).toNat=k by omega]
def rZ{α:Type}(l:VB α)(k:Nat):okB 0 (mi (l.length:Int) (k:Int)) l.length=true:=Sd (by rw[iE]; omega)
section
variable{α β:Type}
def OP(l:VB α):(Vh l 10)=l.take 10:=nO l 10
def Qe(l:VB α):(Vh l 42)=l.take 42:=nO l 42
def Po(l:VB α):(Vh l 66)=l.take 66:=nO l 66
def Px(l:VB α):(Vh l 125)=l.take 125:=nO l 125
def QB(l:VB α):okB 0 (mi (l.length:Int) (10:Int)) l.length=true:=rZ l 10
def OL(l:VB α):okB 0 (mi (l.length:Int) (42:Int)) l.length=true:=rZ l 42
def QD(l:VB α):okB 0 (mi (l.length:Int) (66:Int)) l.length=true:=rZ l 66
def PD(l:VB α):okB 0 (mi (l.length:Int) (125:Int)) l.length=true:=rZ l 125
def uW{o:VA α}{K:α->VA β}{R:β->Prop}(Q:α->Prop)(h:∃q,o=some q/\Q q)(hK:∀q,Q q->∃c,K q=some c/\R c):∃c,ob o K=some c/\R c:=by
 obtain⟨q,rfl,h2⟩:=h;exact hK q h2
def fm{c:Bool}{A B:VA α}{Q:α->Prop}(h1:c=true->∃q,A=some q/\Q q)(h2:c=false->∃q,B=some q/\Q q):∃q,br c A B=some q/\Q q:=by
 cases c
 exact h2 rfl
 exact h1 rfl
def ie{c:Bool}{A:VA α}{Q:α->Prop}(hc:c=true)(h:∃q,A=some q/\Q q):∃q,gd c A=some q/\Q q:=by
 subst hc; exact h
def rr{l:VB α}{i:Nat}(hi:i<l.length){K:α->VA β}{R:β->Prop}(h:∀x∈l,l[((i:Nat):Int).toNat]? = some x->∃c,K x=some c/\R c):∃c,ob (l[((i:Nat):Int).toNat]?) K=some c/\R c:=by
 have e:=bM (R6 hi);rw[e,ai];exact h _ (Su hi) e
end
def Lv(f:Fc):Fc:=(f.1.take 42,(f.2.take 10).map fun h=>h.take 42)
def Ql(c:VB I2×VB Fc):Prop:=c.1.length<=125/\c.2.length<=66/\∀f∈c.2,f.1.length<=42/\f.2.length<=10/\∀h∈f.2,h.length<=42
def N3(c:VB I2×VB Fc):VB I2×VB Fc:=(c.1.take 125,(c.2.take 66).map Lv)
def EG(f:Fc):(Lv f).1.length<=42/\(Lv f).2.length<=10/\∀h ∈(Lv f).2,h.length<=42:=by
 unfold Lv;refine⟨by rw[Sq]; omega,by rw[Si,Sq]; omega,fun h hh=>?_⟩
 obtain⟨x,_,rfl⟩:=Sy.1 hh;rw[Sq]; omega
def Nn(c:VB I2×VB Fc):Ql (N3 c):=by
 unfold N3;refine⟨by rw[Sq]; omega,by rw[Si,Sq]; omega,fun f hf=>?_⟩
 obtain⟨x,_,rfl⟩:=Sy.1 hf;exact EG x
def Ag(n:Nat){l:VB Int}(h:l.length<=1000):Lj n l=some l:=by
 unfold Lj; rw[bw (by omega)]; rfl
def Hn(n:Nat)(h:Uv)(hn:1000<n):bK (uX n h) n ([],0)=some ((h.take 10).map fun x=>x.take 42):=by
 refine BH (B:=uX n h) (l:=h.take 10) (fun x=>x.take 42) id (fun i x hx hi=>?_) ?_ (by rw[Sq]; omega)
 have h10:(h.take 10).length<=10:=by rw[Sq]; omega
 unfold uX;simp only[OP,Qe,OL];rw[aH (by omega),aA hi,bc,bM hx,ai,bc,Ag n (by rw[Sq]; omega),ai,bw (by simp; omega),bc,av (by omega)]
 unfold uX;simp only[OP];rw[aD (by omega)]; rfl
def EI(n:Nat)(p:VB I2)(F:VB Fc)(hn:1000<n):N0 n p F=some (N3 (p,F)):=by
 unfold N0 N3;simp only[Px,PD,QD,bc];rw[show Qs n (p.take 125)=some (p.take 125) by unfold Qs; rw[bw (by rw[Sq]; omega)]; rfl,ai]
 have:bK (vG n F) n ([],0)=some ((F.take 66).map Lv):=by
  refine BH (B:=vG n F) (l:=F.take 66) Lv id (fun i x hx hi=>?_) ?_ (by rw[Sq]; omega)
  ·have h66:(F.take 66).length<=66:=by rw[Sq]; omega
   obtain⟨o,h⟩:=x;unfold vG;simp only[Po,Qe,OL,QB];rw[aH (by omega),aA hi,bc,bM hx,ai]
   try dsimp only
   rw[bc,Ag n (by rw[Sq]; omega),ai,bc,Hn n h hn,ai,bw (by simp; omega),bc,av (by omega)]
   rfl
  unfold vG;simp only[Po];rw[aD (by omega)]; rfl
 rw[this]; rfl
def Gs{B:VB Int×Int×Int->VA ((VB Int×Int×Int)⊕VB Int)}{N:Nat}(hN:N<=1000)
  (hB:∀(l:VB Int) (a b:Nat),l.length=N->b<N->a<b->∃l',B (l,(a:Int),(b:Int))=some (.inl (l',((a+1:Nat):Int),((b-1:Nat):Int)))/\l'.length=N)
  (hE:∀(l:VB Int) (a b:Int),¬a<b->B (l,a,b)=some (.inr l)) :
  ∀(k n:Nat) (l:VB Int) (a b:Nat),l.length=N->b<N->b<=a+k->k<n->∃r,bK B n (l,(a:Int),(b:Int))=some r/\r.length=N
 | 0,n+1,l,a,b,hl,_,hk,_=>⟨l,fC (hE l _ _ (by omega)),hl⟩
 | k+1,n+1,l,a,b,hl,hb,hk,hn=>by
  by_cases c:a<b
  obtain⟨l',h1,h2⟩:=hB l a b hl hb c;rw[fZ h1];exact Gs hN hB hE k n l' (a+1) (b-1) h2 (by omega) (by omega) (by omega)
  exact⟨l,fC (hE l _ _ (by omega)),hl⟩
def zP(n:Nat){l:VB Int}(hl:l.length<=1000)(hn:2000<n):∃r,bK (ur n l) n (l,0,UE ((l.length:Int)-1))=some r/\r.length=l.length:=by
 by_cases h0:l.length=0
 ·refine⟨l,?_,rfl⟩;obtain⟨n,rfl⟩:∃k,n=k+1:=⟨n-1,by omega⟩
  refine fC ?_;rw[aF (by omega) (by omega)]
  unfold ur
  try dsimp only
  rw[aD (by omega)]
 rw[aF (by omega) (by omega),show((l.length:Int)-1)=((l.length-1:Nat):Int) by omega]
 refine Gs (B:=ur n l) (N:=l.length) hl (fun l' a b hl' hb hab=>?_) (fun l' a b hab=>?_) (l.length-1) n l 0 (l.length-1) rfl (by omega) (by omega) (by omega)
 ·have e1:l'[((b:Nat):Int).toNat]? = some (l'.getD b 0):=by rw[SG,Sc,R6 (by omega)]; rfl
  have e2:l'[((a:Nat):Int).toNat]? = some (l'.getD a 0):=by rw[SG,Sc,R6 (by omega)]; rfl
  have hs:∀x,(l'.set ((a:Nat):Int).toNat x)[((b:Nat):Int).toNat]? = some (l'.getD b 0):=fun x=>by
   rw[SG,List.getElem?_set_ne (by rw[SG]; omega),<-e1,SG]
  refine⟨(l'.set ((a:Nat):Int).toNat (l'.getD b 0)).set ((b:Nat):Int).toNat (l'.getD a 0),?_,?_⟩
  ·unfold ur
   try dsimp only
   rw[aH (by omega),aA hb,bc,e1,ai,aA (show a<l.length by omega),bc,e2,ai,bc,bc,hs,ai,av (by omega),aF (x:=(b:Int)-1) (by omega) (by omega),show((b:Int)-1)=((b-1:Nat):Int) by omega]
  rw[Ub,Ub]; exact hl'
 ·unfold ur
  try dsimp only
  rw[aD hab]
def EJ(n:Nat){l:VB Int}(hl:l.length<=1000)(hn:2000<n):∃r,bK (G0 n l) n (l,0,UE ((l.length:Int)-1))=some r/\r.length=l.length:=zP n hl hn
def zd(n:Nat)(x3:Nat){l:VB Int}(hl:l.length<=1000)(hn:2000<n):∀(k m:Nat) (s:Uv),10<=s.length+k->k<m->s.length<=20->(∀h∈s,h.length<=1000)->∃r,bK (uf n x3 l) m s=some r/\r.length<=20/\∀h∈r,h.length<=1000
 | 0,m+1,s,hs,_,h20,hh=>by
  have hw:UE ((x3%2:Nat):Int)=((x3%2:Nat):Int):=aF (by omega) (by omega)
  refine⟨s,fC ?_,h20,hh⟩;unfold uf;rw[hw,aF (by omega) (by omega),aD (by omega)]
 | k+1,m+1,s,hs,hm,h20,hh=>by
  have hw:UE ((x3%2:Nat):Int)=((x3%2:Nat):Int):=aF (by omega) (by omega)
  by_cases c:(s.length:Int)<8+((x3%2:Nat):Int)
  have hB:uf n x3 l s=some (.inl (s++[l])):=by
   unfold uf;rw[hw,aF (by omega) (by omega),aH c,Ag n hl,ai,bw (by simp; omega),bc]
  rw[fZ hB];exact zd n x3 hl hn k m (s++[l]) (by simp; omega) (by omega) (by simp; omega) (fun h hh'=>by
   rcases St.1 hh' with g|g
   exact hh h g
   rw[Se.1 g]; exact hl)
  refine⟨s,fC ?_,h20,hh⟩;unfold uf;rw[hw,aF (by omega) (by omega),aD c]
def lZ{P:VB I2}{G:VB Fc}(hc:Ql (P,G)){y:Fc}(hy:Pp y)(j:Nat):Jr (P,G.set j y):=by
 refine⟨SI hc.1 (by decide),?_,fun f hf=>?_⟩
 show(G.set j y).length<=1000
 rw[Ub]; exact SI hc.2.1 (by decide)
 rcases List.mem_or_eq_of_mem_set hf with h|h
 have:=hc.2.2 f h;exact⟨by omega,by omega,fun h hh=>by have:=this.2.2 h hh; omega⟩
 rw[h]; exact hy
def jS{P:VB I2}{G:VB Fc}(hc:Ql (P,G)){a:VB Int}{b:Uv}(ha:a.length<=1000)(hb:b.length<=1000)(hx:∀x∈b,x.length<=1000)(j:Nat):Jr (P,G.set j (a,b)):=lZ hc (y:=(a,b)) ⟨ha,hb,hx⟩ j
def xU{c:VB I2×VB Fc}(h:Ql c):Jr c:=⟨by have:=h.1; omega,by have:=h.2.1; omega,fun f hf=>by
 have:=h.2.2 f hf;exact⟨by omega,by omega,fun x hx=>by have:=this.2.2 x hx; omega⟩⟩
def Im(n:Nat)(x1 x2 x3:Nat)(x4 x5 x6:Int)(p:VB I2)(F:VB Fc)(h2:x2<256)(h3:x3<256)(hn:10000<n):∃c,N1 n x1 x2 x3 x4 x5 x6 p F=some c/\Jr c:=by
 unfold N1;rw[EI n p F (by omega),ai]
 have hb:=Nn (p,F);generalize N3 (p,F)=c at *;obtain⟨P,G⟩:=c
 try dsimp only
 have hP:P.length<=125:=hb.1;have hG:G.length<=66:=hb.2.1;have w2:UE ((x2:Nat):Int)=(x2:Int):=aF (by omega) (by omega)
 have w3:UE ((x3:Nat):Int)=(x3:Int):=aF (by omega) (by omega)
 by_cases e1:(P.length:Int)=0
 rw[aH e1,ai,lN]; exact⟨_,rfl,xU hb⟩
 rw[aD e1,ai]
 by_cases e2:(G.length:Int)=0
 rw[aH e2]; exact⟨_,rfl,xU hb⟩
 rw[aD e2,fM e1,fM e2];simp only[w2,w3,jZ];have hj:x2%G.length<G.length:=SY _ (by omega)
 have hi:x2%P.length<P.length:=SY _ (by omega)
 have hi3:x3%P.length<P.length:=SY _ (by omega)
 have hj3:x3%G.length<G.length:=SY _ (by omega)
 rw[aA hj,bc];refine rr hj fun y hy _=>?_;obtain⟨o,h⟩:=y;have hy':=hb.2.2 _ hy;have ho:o.length<=42:=hy'.1;have hh:h.length<=10:=hy'.2.1;have hhh:∀x∈h,x.length<=42:=hy'.2.2;have hyF:Pp (o,h):=⟨by show o.length<=1000; omega,by show h.length<=1000; omega,fun x hx=>by have:=hhh x hx; omega⟩
 try dsimp only
 refine uW (fun q=>Jr (q.1,q.2.2.2)) ?_ (fun q hq=>?_)
 rotate_left
 obtain⟨a,b,c,d⟩:=q; exact⟨(a,d),rfl,hq⟩
 refine fm (fun _=>?_) (fun _=>?_)
 
 rw[aA hi,bc];refine rr hi fun y _ _=>?_;obtain⟨y1,y2⟩:=y;refine⟨_,rfl,?_⟩;have:=lZ hb hyF (x2%G.length);exact⟨by show(List.set ..).length<=_; rw[Ub]; omega,this.2⟩
 refine fm (fun _=>?_) (fun _=>?_)
 ·rw[fM e1,aA hi3,bc];refine rr hi3 fun y _ _=>?_;obtain⟨y1,y2⟩:=y
  try dsimp only
  rw[aA hi,bc];refine rr hi fun z _ _=>?_;obtain⟨z1,z2⟩:=z;refine⟨_,rfl,?_⟩;have:=lZ hb hyF (x2%G.length);exact⟨by show(List.set ..).length<=_; rw[Ub]; omega,this.2⟩
 refine fm (fun _=>?_) (fun _=>?_)
 refine ie (bw (by simp; omega)) ⟨_,rfl,?_⟩
 have:=lZ hb hyF (x2%G.length);exact⟨by show List.length (_++_)<=_; simp; omega,this.2⟩
 refine fm (fun _=>?_) (fun _=>?_)
 refine ie (Sd ⟨by omega,by omega,by omega⟩) (ie (Sd (by omega)) ⟨_,rfl,?_⟩)
 have:=lZ hb hyF (x2%G.length);exact⟨by show(List.take ..).length<=_; rw[Sq]; omega,this.2⟩
 refine fm (fun _=>?_) (fun _=>?_)
 ·rw[EI n P G (by omega),ai]
  unfold N3
  try dsimp only
  have hl:((G.take 66).map Lv).length=G.length:=by rw[Si,Sq]; omega
  rw[fM e2,aA (by omega),bc]
  refine rr (by omega) fun z hz _=>?_
  obtain⟨z1,z2⟩:=z;refine ie (bw (by simp; omega)) ⟨_,rfl,?_⟩
  have h0:=xU hb;refine⟨h0.1,by show List.length (_++_)<=_; simp; omega,fun f hf=>?_⟩
  rcases St.1 hf with g|g
  exact h0.2.2 f g
  rw[Se.1 g];obtain⟨w,_,hw⟩:=Sy.1 hz;have:=EG w;rw[hw] at this;exact⟨by show z1.length<=1000; have:=this.1; dsimp only at this; omega,by show z2.length<=1000; have:=this.2.1; dsimp only at this; omega,fun x hx=>by have:=this.2.2 x hx; omega⟩
 refine fm (fun _=>?_) (fun _=>?_)
 rw[fM e2,fM e2,ai,av (by omega)]
 refine uW (fun q=>q.length<=66/\∀f∈q,f∈G) ?_ (fun q hq=>⟨_,rfl,?_⟩)
 unfold Rp;refine ie ?_ ⟨_,rfl,?_,fun f hf=>?_⟩
 rw[Sd (show 0<G.length by omega),Sd (show(0:Int)<=((x2%G.length:Nat):Int) by omega),Sd (show((x2%G.length:Nat):Int)<((x2%G.length+1:Nat):Int) by omega),Sd (show((x2%G.length+1:Nat):Int)<=(G.length:Int) by omega),bw (by omega)]; rfl
 rw[Sn,Sq,SZ]; omega
 exact(St.1 hf).elim Tq TF
 have h0:=xU hb;exact⟨h0.1,by show q.length<=1000; omega,fun f hf=>h0.2.2 f (hq.2 f hf)⟩
 refine fm (fun _=>?_) (fun _=>?_)
 refine fm (fun c=>?_) (fun _=>⟨_,rfl,lZ hb hyF _⟩);have c:=of_decide_eq_true c;have hk:x3%o.length<o.length:=SY _ (by omega)
 rw[fM (by omega),aA hk,bc]
 refine rr hk fun z _ _=>⟨_,rfl,jS hb ?_ hyF.2.1 hyF.2.2 _⟩;rw[Ub]; omega
 refine fm (fun _=>?_) (fun _=>?_)
 obtain⟨r,hr,hl⟩:=zP n (l:=o) (by omega) (by omega)
 rw[hr,ai,ai];exact⟨_,rfl,jS hb (show r.length<=1000 by omega) hyF.2.1 hyF.2.2 _⟩
 refine fm (fun _=>?_) (fun _=>?_)
 exact⟨_,rfl,jS hb hyF.1 (b:=[]) (Tn _) (fun _ hx=>by cases hx) _⟩
 refine fm (fun _=>?_) (fun _=>?_)
 ·rw[fM e2,aA hj3,bc];refine rr hj3 fun z hz _=>?_;obtain⟨z1,z2⟩:=z;have hz1:z1.length<=42:=(hb.2.2 _ hz).1
  try dsimp only
  rw[Ag n (by omega),ai,bw (by simp; omega),bc,ai]
  have hw:UE (((h++[z1]).length:Int)-1)=(h.length:Int):=by
   rw[Sn,List.length_singleton,aF (by omega) (by omega)]; omega
  rw[hw,aA (by simp),bc,show(h++[z1])[((h.length:Nat):Int).toNat]? = some z1 by simp,ai]
  obtain⟨r,hr,hl⟩:=EJ n (l:=z1) (by omega) (by omega)
  rw[hr,ai,ai];refine⟨_,rfl,jS hb hyF.1 (by rw[Ub,Sn]; simp; omega) (fun x hx=>?_) _⟩
  rcases List.mem_or_eq_of_mem_set hx with g|g
  rcases St.1 g with g|g
  exact hyF.2.2 x g
  rw[Se.1 g]; omega
  rw[g]; omega
 refine fm (fun _=>?_) (fun _=>?_)
 refine fm (fun c=>?_) (fun _=>⟨_,rfl,lZ hb hyF _⟩);have c:=of_decide_eq_true c;have hk:x3%o.length<o.length:=SY _ (by omega)
 rw[fM (by omega),fM (by omega),ai,av (by omega)]
 refine uW (fun q=>q.length<=42) ?_ (fun q hq=>⟨_,rfl,jS hb (show q.length<=1000 by omega) hyF.2.1 hyF.2.2 _⟩)
 unfold Qx;refine ie ?_ ⟨_,rfl,?_⟩
 rw[Sd (show 0<o.length by omega),Sd (show(0:Int)<=((x3%o.length:Nat):Int) by omega),Sd (show((x3%o.length:Nat):Int)<=((x3%o.length+1:Nat):Int) by omega),Sd (show((x3%o.length+1:Nat):Int)<=(o.length:Int) by omega),bw (by omega)]; rfl
 rw[Sn,Sq,SZ]; omega
 refine fm (fun _=>?_) (fun _=>?_)
 have hk:x3%(o.length+1)<o.length+1:=SY _ (by omega)
 rw[av (by omega),fM (by omega),ai,fM e1]
 simp only[jZ];refine uW (fun q=>q.length<=43) ?_ (fun q hq=>⟨_,rfl,jS hb (show q.length<=1000 by omega) hyF.2.1 hyF.2.2 _⟩)
 unfold Rg;refine ie ?_ ⟨_,rfl,?_⟩
 rw[Sd (show(0:Int)<=((x3%(o.length+1):Nat):Int) by omega),Sd (show((x3%(o.length+1):Nat):Int)<=(o.length:Int) by omega),bw (by omega)]; rfl
 rw[Sn,Sn,Sq,SZ]; simp; omega
 refine fm (fun _=>?_) (fun _=>?_)
 refine fm (fun c=>?_) (fun _=>⟨_,rfl,lZ hb hyF _⟩);have c:=of_decide_eq_true c;have hk:x3%o.length<o.length:=SY _ (by omega)
 refine ie (Sd (by omega)) (ie (Sd ⟨by omega,by omega,by omega⟩) ?_)
 rw[Ag n (by rw[Sq,SZ]; omega),ai]
 refine ie (Sd (by omega)) (ie (Sd ⟨by omega,by omega,by omega⟩) (ie (bw ?_) ⟨_,rfl,jS hb ?_ hyF.2.1 hyF.2.2 _⟩))
 rw[Sn,Sq,SZ,Sq,SZ]; omega
 rw[Sn,Sq,SZ,Sq,SZ]; omega
 obtain⟨r,hr,hl,hx⟩:=zd n x3 (l:=o) (by omega) (by omega) 10 n h (by omega) (by omega) (by omega) (fun x hx=>hyF.2.2 x hx)
 rw[hr,ai];exact⟨_,rfl,jS hb hyF.1 (show r.length<=1000 by omega) hx _⟩
def w5(n:Nat)(l:VB Nat)(k:Nat):∃r,Jv n l (k:Int)=some r/\True:=by
 unfold Jv;refine fm (fun _=>⟨_,rfl,trivial⟩) (fun c=>?_);have c:=of_decide_eq_false c;have hk:k%l.length<l.length:=SY _ (by omega)
 rw[fM c,jZ,aA hk,bc];exact rr hk fun x _ _=>⟨_,rfl,trivial⟩
def Ij(n:Nat){w:Nat}(hw:w<=5)(y:Int)(l8:VB Nat){l0:VB I2}(h0:l0.length<=1000)(hn:1000<n):∃r,bK (vD n (w:Int) y l8) n (l0,0,0)=some r/\r.length=l0.length+(w+1):=by
 refine ga (B:=vD n (w:Int) y l8) (len:=w+1) (fun i (s:VB I2×Int)=>(s.1,s.2,(i:Int))) (fun i s=>s.1.length=l0.length+i) (fun r=>r.length=l0.length+(w+1)) (fun i s hi hs=>.inl ?_) (fun s hs=>?_) (w+1) 0 (l0,0) n (by omega) (by omega) rfl
 ·obtain⟨l,x⟩:=s
  try dsimp only at hs ⊢
  obtain⟨r,hr,_⟩:=w5 n l8 i;refine⟨(l++[(x,y)],UE ((UE (x+1))+(Int.tmod r 5))),?_,by simp; omega⟩
  unfold vD
  try dsimp only
  rw[aH (by omega),bw (by simp; omega),bc,hr,ai,av (by omega)]
 ·obtain⟨l,x⟩:=s;refine⟨l,?_,hs⟩;unfold vD
  try dsimp only
  rw[aD (by omega)]
def E0(n:Nat){w h:Nat}(hw:w<=5)(hh:h<=5)(l8:VB Nat)(hn:1000<n):∃r,bK (vT n (h:Int) (w:Int) l8) n ([],0,0)=some r/\r.length=(h+1)*(w+1):=by
 refine ga (B:=vT n (h:Int) (w:Int) l8) (len:=h+1) (fun i (s:VB I2×Int)=>(s.1,s.2,(i:Int))) (fun i s=>s.1.length=i*(w+1)) (fun r=>r.length=(h+1)*(w+1)) (fun i s hi hs=>.inl ?_) (fun s hs=>?_) (h+1) 0 ([],0) n (by omega) (by omega) (by simp)
 ·obtain⟨l,y⟩:=s
  try dsimp only at hs ⊢
  have hb:i*(w+1)<=5*(w+1):=Te _ (by omega)
  obtain⟨r,hr,hl⟩:=Ij n hw y l8 (l0:=l) (by omega) hn
  obtain⟨r',hr',_⟩:=w5 n l8 (7+i);refine⟨(r,UE ((UE (y+1))+(Int.tmod r' 5))),?_,by rw[TM]; dsimp only; omega⟩
  unfold vT
  try dsimp only
  rw[aH (by omega),hr,ai,aF (x:=7+(i:Int)) (by omega) (by omega),show(7+(i:Int))=((7+i:Nat):Int) by omega,hr',ai,av (by omega)]
 ·obtain⟨l,y⟩:=s;refine⟨l,?_,hs⟩;unfold vT
  try dsimp only
  rw[aD (by omega)]
def uA(k:Nat)(l:VB Fc):Prop:=l.length<=k/\∀f∈l,Pp f
def kW{k j:Nat}{l m:VB Fc}(h:uA k l)(hm:uA j m):uA (k+j) (l++m):=⟨by rw[Sn]; have:=h.1; have:=hm.1; omega,fun f hf=>(St.1 hf).elim (h.2 f) (hm.2 f)⟩
def uA.le{k j:Nat}{l:VB Fc}(h:uA k l)(hk:k<=j):uA j l:=⟨by have:=h.1; omega,h.2⟩
def GU{o:VB Int}(h:o.length<=1000):Pp (o,[]):=⟨h,by simp,fun _ hx=>by cases hx⟩
def yX{o:VB Int}(h:o.length<=1000):uA 2 [(o,[])]:=⟨by simp,fun f hf=>by rw[Se.1 hf]; exact GU h⟩
def Lm{o o':VB Int}(h:o.length<=1000)(h':o'.length<=1000):uA 2 [(o,[]),(o',[])]:=⟨by simp,fun f hf=>by
 rcases Sr.1 hf with e|hf
 rw[e]; exact GU h
 rw[Se.1 hf]; exact GU h'⟩
def BE{k:Nat}{l:VB Fc}(h:uA k l)(hk:k<=1000):lim l.length=true:=bw (by have:=h.1; omega)
def FO(n:Nat){w v:Nat}(hw:w<=5)(hv:v<=5)(l3:VB Nat){k:Nat}(hk:k<=500){l0:VB Fc}(h0:uA k l0)(hn:1000<n):∃r,bK (ui n (w:Int) (v:Int) l3) n (l0,0)=some r/\uA (k+10) r:=by
 refine ga (B:=ui n (w:Int) (v:Int) l3) (len:=w) (fun i (s:VB Fc)=>(s,(i:Int))) (fun i s=>uA (k+2*i) s) (fun r=>uA (k+10) r) (fun i s hi hs=>.inl ?_) (fun s hs=>⟨s,?_,hs.le (by omega)⟩) w 0 l0 n (by omega) (by omega) h0
 ·have hvw:v*w<=5*5:=Uk hv hw;obtain⟨q,hq,_⟩:=w5 n l3 (v*w+i);have hx:UE ((UE ((v:Int)*(w:Int)))+(i:Int))=((v*w+i:Nat):Int):=by
   rw[show((v:Int)*(w:Int))=((v*w:Nat):Int) from(Int.natCast_mul v w).symm,aF (x:=((v*w:Nat):Int)) (by omega) (by omega),aF (by omega) (by omega)]; omega
  have key:∀(s':VB Fc),uA (k+2*i+2) s'->uA (k+2*(i+1)) s':=fun s' h=>h.le (by omega)
  suffices hg:∃c,ui n (w:Int) (v:Int) l3 (s,(i:Int))=some c/\∃s',c=.inl (s',((i+1:Nat):Int))/\uA (k+2*i+2) s' by
   obtain⟨c,h1,s',h2,h3⟩:=hg;exact⟨s',by rw[h1,h2],key s' h3⟩
  unfold ui
  try dsimp only
  rw[aH (by omega)]
  refine uW (fun s'=>uA (k+2*i+2) s') ?_ (fun s' hs'=>⟨_,rfl,s',by rw[av (by omega)],hs'⟩)
  rw[ai,hx,hq,ai];refine fm (fun _=>?_) (fun _=>fm (fun _=>fm (fun _=>?_) (fun _=>?_)) (fun _=>?_))
  rw[ai,ai];exact ie (BE (kW hs (Lm (by simp) (by simp))) (by omega)) ⟨_,rfl,kW hs (Lm (by simp) (by simp))⟩
  exact⟨_,rfl,hs.le (by omega)⟩
  rw[ai];exact ie (BE (kW hs (yX (by simp))) (by omega)) ⟨_,rfl,kW hs (yX (by simp))⟩
  rw[ai];exact ie (BE (kW hs (yX (by simp))) (by omega)) ⟨_,rfl,kW hs (yX (by simp))⟩
 ·unfold ui
  try dsimp only
  rw[aD (by omega)]
def HD(n:Nat){w h:Nat}(hw:w<=5)(hh:h<=5)(l3:VB Nat)(hn:1000<n):∃r,bK (vC n (h:Int) (w:Int) l3) n ([],0)=some r/\uA 50 r:=by
 refine ga (B:=vC n (h:Int) (w:Int) l3) (len:=h) (fun i (s:VB Fc)=>(s,(i:Int))) (fun i s=>uA (10*i) s) (fun r=>uA 50 r) (fun i s hi hs=>.inl ?_) (fun s hs=>⟨s,?_,hs.le (by omega)⟩) h 0 [] n (by omega) (by omega) ⟨by simp,fun _ hx=>by cases hx⟩
 ·obtain⟨r,hr,hb⟩:=FO n hw (v:=i) (by omega) l3 (k:=10*i) (by omega) hs hn
  refine⟨r,?_,hb.le (by omega)⟩
  unfold vC
  try dsimp only
  rw[aH (by omega),hr,ai,av (by omega)]
 ·unfold vC
  try dsimp only
  rw[aD (by omega)]
def MO(n:Nat)(x1 x2:Nat)(l3 l8:VB Nat)(b:Bool)(hn:1000<n):∃c,Of n x1 x2 l3 l8 b=some c/\Jr c:=by
 have hwh:∃w h:Nat,w<=5/\h<=5/\(br b (some ((3:Int),(3:Int))) (some (UE (1+(UE ((x1%4:Nat):Int))),UE (1+(UE ((x2%3:Nat):Int))))))=some ((w:Int),(h:Int)):=by
  cases b
  refine⟨1+x1%4,1+x2%3,by omega,by omega,?_⟩
  rw[jl,aF (x:=((x1%4:Nat):Int)) (by omega) (by omega),aF (x:=((x2%3:Nat):Int)) (by omega) (by omega),aF (by omega) (by omega),aF (by omega) (by omega)]
  rfl
  exact⟨3,3,by omega,by omega,rfl⟩
 obtain⟨w,h,hw,hh,e⟩:=hwh;unfold Of;rw[e,ai]
 try dsimp only
 obtain⟨P,hP,hPl⟩:=E0 n hw hh l8 hn;have hPb:P.length<=1000:=by
  have:(h+1)*(w+1)<=6*6:=Uk (by omega) (by omega)
  omega
 rw[hP,ai];cases b
 rw[jl];obtain⟨r,hr,hb⟩:=HD n hw hh l3 hn;rw[hr,ai];exact⟨_,rfl,hPb,by have:=hb.1; show r.length<=1000; omega,hb.2⟩
 rw[lN];have h1:uA 1 ([([0,1,2,3,7,11,15,14,13,12,8,4],[[5,9,10,6]])]:VB Fc):=⟨by simp,fun f hf=>by
  rw[Se.1 hf];exact⟨by simp,by simp,fun x hx=>by rw[Se.1 hx]; simp⟩⟩
 refine ie (bw (by simp)) (uW (fun l=>uA 5 l) ?_ (fun l hl=>⟨_,rfl,hPb,by have:=hl.1; show l.length<=1000; omega,hl.2⟩))
 obtain⟨q,hq,_⟩:=w5 n l3 0;rw[show Jv n l3 0=some q from hq,ai]
 refine fm (fun _=>ie (bw (by simp)) ⟨_,rfl,?_⟩) (fun _=>⟨_,rfl,h1.le (by omega)⟩)
 exact(kW h1 (yX (o:=[5,6,10,9]) (by simp))).le (by omega)
def Oy(n:Nat)(x1 x2:Nat)(l3 l8:VB Nat)(b:Bool)(x14 x15 x16:Nat)(x17 x18 x19:Int)(x20 x21 x22:Nat)(x23 x24 x25:Int)(h15:x15<256)(h16:x16<256)(h21:x21<256)(h22:x22<256)(hn:10000<n) :
  ∃c d e,F7 n x1 x2 l3 l8 b x14 x15 x16 x17 x18 x19 x20 x21 x22 x23 x24 x25=some (c.1,c.2,d.1,d.2,e.1,e.2)/\Jr c/\Jr d/\Jr e/\Of n x1 x2 l3 l8 b=some c:=by
 obtain⟨c,h1,b1⟩:=MO n x1 x2 l3 l8 b (by omega)
 obtain⟨d,h2,b2⟩:=Im n x14 x15 x16 x17 x18 x19 c.1 c.2 h15 h16 hn;obtain⟨e,h3,b3⟩:=Im n x20 x21 x22 x23 x24 x25 d.1 d.2 h21 h22 hn;refine⟨c,d,e,?_,b1,b2,b3,h1⟩;unfold F7;rw[h1,ai]
 try dsimp only
 rw[h2,ai]
 try dsimp only
 rw[h3,ai]
section
variable{pts:VB I2}{F:VB Fc}(n:Nat)
end
section
variable{pts:VB I2}{F:VB Fc}(n:Nat)
end
section
variable{pts:VB I2}{F:VB Fc}(n:Nat)
end
section
variable{pts:VB I2}{F:VB Fc}(n:Nat)
end
def zr{α β:Type}[DecidableEq α]{xs:VB (α×β)}(hn:(xs.map Prod.fst).Nodup){k:α}{v:β}:dR xs k=some v↔(k,v)∈xs:=by
 have key:∀(xs:VB (α×β)) (i:Nat),(xs.map Prod.fst).Nodup->((cN k xs i).map (·.2)=some v↔(k,v)∈xs):=by
  intro xs
  induction xs with
  | nil=>intro i _; simp[cN]
  | cons e xs ih =>
   intro i hn;rw[Ts,TI] at hn;unfold cN
   by_cases h:k=e.1
   rw[R7 h,Sr];constructor
   intro g;have:e.2=v:=Sb g;exact .inl (by rw[h,<-this])
   rintro(g|g)
   show some e.2=some v
   rw[<-g]
   exact Sw (Sy.2 ⟨(k,v),g,h⟩) hn.1
   rw[R5 h,ih (i+1) hn.2,Sr];exact⟨.inr,fun g=>g.elim (fun g=>Sw (SH Prod.fst g) h) id⟩
 exact key xs 0 hn
def Bp{α β:Type}[DecidableEq α]{xs:VB (α×β)}(hn:(xs.map Prod.fst).Nodup)(k:α)(v:β):((iW xs k v).map Prod.fst).Nodup:=by
 rw[qH]
 by_cases g:k∈xs.map Prod.fst
 rw[R7 g]; exact hn
 rw[R5 g];refine List.nodup_append.2 ⟨hn,by simp,fun u hu v hv=>?_⟩
 rw[Se] at hv;intro e; rw[e,hv] at hu; exact g hu
def fc(E:VB Ed)(a b:Int):Int:=E.foldl (fun x e=>if e.1=a/\e.2.1=b then e.2.2.1 else x) (-1)
def tH(E:VB Ed)(e:Ed)(a b:Int):fc (E++[e]) a b=if e.1=a/\e.2.1=b then e.2.2.1 else fc E a b:=by unfold fc; rw[List.foldl_append]; rfl
def Qj(N:Nat)(e:Ed):Prop:=(0<=e.1/\e.1<N)/\(0<=e.2.1/\e.2.1<N)/\e.1≠e.2.1/\0<=e.2.2.1/\e.2.2.1<64
def rW{α:Type}{P:VB α->Prop}(h0:P [])(h1:∀l a,P l->P (l++[a]))(l:VB α):P l:=by
 have:∀l:VB α,P l.reverse:=fun l=>by
  induction l with
  | nil=>exact h0
  | cons a l ih=>rw[List.reverse_cons]; exact h1 _ _ ih
 have:=this l.reverse;rwa[List.reverse_reverse] at this
def Ly{N:Nat}(a b:Int):∀E:VB Ed,(∀e∈E,Qj N e)->-1<=fc E a b/\fc E a b<64:=by
 refine rW (fun _=>⟨(by show(-1:Int)<=-1; decide),(by show(-1:Int)<64; decide)⟩) fun E e ih h=>?_
 rw[tH];have h1:=ih fun x hx=>h x (Sx _ hx);have h2:=h e (SJ _ (Se.2 rfl))
 split
 have:=h2.2.2.2; omega
 exact h1
def IX(m:VB ((Int×Int)×dS))(e:Ed):VB ((Int×Int)×dS) :=
 iW m (mi e.1 e.2.1,ma e.1 e.2.1) (((dR m (mi e.1 e.2.1,ma e.1 e.2.1)).getD (mi e.1 e.2.1,ma e.1 e.2.1,-1,-1)).1,((dR m (mi e.1 e.2.1,ma e.1 e.2.1)).getD (mi e.1 e.2.1,ma e.1 e.2.1,-1,-1)).2.1,
  (if e.1=mi e.1 e.2.1 then e.2.2.1 else((dR m (mi e.1 e.2.1,ma e.1 e.2.1)).getD (mi e.1 e.2.1,ma e.1 e.2.1,-1,-1)).2.2.1),(if e.1=mi e.1 e.2.1 then((dR m (mi e.1 e.2.1,ma e.1 e.2.1)).getD (mi e.1 e.2.1,ma e.1 e.2.1,-1,-1)).2.2.2 else e.2.2.1))
structure Wm(N:Nat)(E:VB Ed)(m:VB ((Int×Int)×dS)):Prop where
 nd:(m.map Prod.fst).Nodup
 rg:∀p∈m.map Prod.fst,0<=p.1/\p.1<p.2/\p.2<N
 get:∀i k:Int,i<k->dR m (i,k)=if 0<=fc E i k\/0<=fc E k i then some (i,k,fc E i k,fc E k i) else none
def PE{N:Nat}:∀E:VB Ed,(∀e∈E,Qj N e)->Wm N E (E.foldl IX []):=by
 refine rW (fun _=>⟨List.nodup_nil,fun _ h=>(by cases h),fun i k _=>(by rw[R5 (show ¬(0<=fc [] i k\/0<=fc [] k i) from(by decide:¬((0:Int)<=-1\/(0:Int)<=-1)))]; rfl)⟩) fun E e ih h=>?_
 have hE:=fun x hx=>h x (Sx _ hx);obtain⟨nd,rg,get⟩:=ih hE;obtain⟨⟨a0,a1⟩,⟨b0,b1⟩,ne,f0,f1⟩:=h e (SJ _ (Se.2 rfl));rw[List.foldl_append,List.foldl_cons,List.foldl_nil];generalize E.foldl IX []=m at *;obtain⟨a,b,f,r⟩:=e
 dsimp only at *
 have hk:0<=mi a b/\mi a b<ma a b/\ma a b<N:=by rw[iE,ji]; omega
 refine⟨Bp nd _ _,fun p hp=>?_,fun i k hik=>?_⟩
 unfold IX at hp;rw[qH] at hp
 split at hp
 exact rg p hp
 rcases St.1 hp with hp|hp
 exact rg p hp
 rw[Se.1 hp]; exact hk
 have g0:=get (mi a b) (ma a b) hk.2.1;have c1:=(Ly (mi a b) (ma a b) E hE).1;have c2:=(Ly (ma a b) (mi a b) E hE).1;unfold IX
 dsimp only
 rw[qx];have hx:(dR m (mi a b,ma a b)).getD (mi a b,ma a b,-1,-1)=(mi a b,ma a b,fc E (mi a b) (ma a b),fc E (ma a b) (mi a b)):=by
  rw[g0]
  by_cases c:0<=fc E (mi a b) (ma a b)\/0<=fc E (ma a b) (mi a b)
  rw[R7 c]; rfl
  rw[R5 c]
  show(mi a b,ma a b,(-1:Int),(-1:Int))=_
  rw[show fc E (mi a b) (ma a b) = -1 by omega,show fc E (ma a b) (mi a b) = -1 by omega]
 rw[hx,tH,tH]
 dsimp only
 rcases Int.lt_or_gt_of_ne ne with hab|hab
 have e1:mi a b=a:=by rw[iE]; omega
 have e2:ma a b=b:=by rw[ji]; omega
 rw[e1,e2,R7 rfl,R7 rfl]
 by_cases c:(i,k)=(a,b)
 obtain⟨rfl,rfl⟩:=Prod.mk.inj c;rw[R7 c,R7 (show i=i/\k=k from⟨rfl,rfl⟩),R5 (show ¬(i=k/\k=i) by omega),R7 (.inl f0)]
 rw[R5 c,R5 (fun g:a=i/\b=k=>c (by rw[g.1,g.2])),R5 (show ¬(a=k/\b=i) by omega)]
 exact get i k hik
 have e1:mi a b=b:=by rw[iE]; omega
 have e2:ma a b=a:=by rw[ji]; omega
 rw[e1,e2,R5 (show ¬a=b by omega),R5 (show ¬a=b by omega)]
 by_cases c:(i,k)=(b,a)
 obtain⟨rfl,rfl⟩:=Prod.mk.inj c;rw[R7 c,R5 (show ¬(k=i/\i=k) by omega),R7 (show k=k/\i=i from⟨rfl,rfl⟩),R7 (.inr f0)]
 rw[R5 c,R5 (show ¬(a=i/\b=k) by omega),R5 (fun g:a=k/\b=i=>c (by rw[g.1,g.2]))]
 exact get i k hik
def xi{σ:Type}{B:(Int×σ)->VA ((Int×σ)⊕σ)}{len:Nat}{g:Nat->VB Ed}{f:σ->Ed->σ}{s0:σ}(hB:∀(i:Nat) s,i<len->B ((i:Int),s)=some (.inl (((i+1:Nat):Int),(g i).foldl f s)))
  (hE:∀s,B ((len:Int),s)=some (.inr s)) {n:Nat} (hn:len<n):bK B n (0,s0)=some ((acc g len).foldl f s0):=by
 obtain⟨r,h1,h2⟩:=ga (B:=B) (len:=len) (fun i (s:σ)=>((i:Int),s)) (fun i s=>s=(acc g i).foldl f s0) (fun r=>r=(acc g len).foldl f s0) (fun i s hi hs=>.inl ⟨_,hB i s hi,by rw[hs,acc,List.foldl_append]⟩) (fun s hs=>⟨_,hE s,hs⟩) len 0 s0 n (by omega) hn rfl
 rw[<-h2]; exact h1
section
variable{pts:VB I2}{F:VB Fc}(n:Nat)
def FY{l:VB Int}{f r:Nat}{m:VB ((Int×Int)×dS)}(hl:l.length<=40)(hn:1000<n):bK (vR n l (f:Int)) n (0,m)=some ((rE l f r).foldl IX m):=by
 refine xi (B:=vR n l (f:Int)) (len:=l.length) (g:=fun i=>[gV l f r i]) (fun i s hi=>?_) (fun s=>?_) (by omega)
 ·obtain⟨e1,e2⟩:=pB hi;have hi2:(i+1)%l.length<l.length:=SY _ (by omega)
  unfold vR
  try dsimp only
  rw[aH (by omega)]
  simp only[aA hi,bc,e1,ai,av (show i<4611686018427387904 by omega)]
  rw[fM (by omega)]
  simp only[jZ,aA hi2,bc,e2,ai];rw[List.foldl_cons,List.foldl_nil];unfold IX gV
  dsimp only
  generalize l.getD i 0=a;generalize l.getD ((i+1)%l.length) 0=b;cases hm:dR s (mi a b,ma a b) with
  | none =>
   simp only[Option.getD_none,Option.isSome_none,SV,lN,ai]
   by_cases c:a=mi a b
   rw[aH c,R7 c,R7 c]; rfl
   rw[aD c,R5 c,R5 c]; rfl
  | some x =>
   obtain⟨x1,x2,x3,x4⟩:=x;simp only[Option.getD_some,Option.isSome_some,S0,jl,ai]
   by_cases c:a=mi a b
   rw[aH c,R7 c,R7 c]; rfl
   rw[aD c,R5 c,R5 c]; rfl
 ·unfold vR
  try dsimp only
  rw[aD (by omega)]
def FH{rs:Uv}{f:Nat}{m:VB ((Int×Int)×dS)}(h9:rs.length<=9)(h40:∀r,(rs.getD r []).length<=40)(hn:1000<n):bK (vP n rs (f:Int)) n (0,m)=some ((fE rs f).foldl IX m):=by
 refine xi (B:=vP n rs (f:Int)) (len:=rs.length) (g:=fun r=>rE (rs.getD r []) f r) (fun i s hi=>?_) (fun s=>?_) (by omega)
 ·have hx:rs[i]? = some (rs.getD i []):=by rw[Sc,R6 hi]; rfl
  unfold vP
  try dsimp only
  rw[aH (by omega),aA hi,bc,bM hx,ai,FY n (r:=i) (h40 i) hn,ai,av (by omega)]
 ·unfold vP
  try dsimp only
  rw[aD (by omega)]
def I3(hv:Fcs pts F)(hn:1000<n):EV n pts F=some ((sE F).foldl IX []):=by
 have hfl:=hv.flen;unfold EV;rw[ai];have:bK (vi n F) n (0,[])=some ((sE F).foldl IX []):=by
  refine xi (B:=vi n F) (len:=F.length) (g:=fun f=>fE (ak F f) f) (fun i s hi=>?_) (fun s=>?_) (by omega)
  ·obtain⟨h9,h40⟩:=fA hv i;unfold vi
   try dsimp only
   rw[aH (by omega),aA hi,bc,bM (fX hi),ai]
   try dsimp only
   rw[j4 n hv hn,ai,FH n h9 h40 hn,ai,av (by omega)]
  ·unfold vi
   try dsimp only
   rw[aD (by omega)]
 rw[this]; rfl
def HT(hv:Fcs pts F):∀e∈sE F,Qj pts.length e:=fun e he=>by
 have h1:=Bb hv (Sa _) e he;obtain⟨f,r,k,hf,_,_,rfl⟩:=xJ (Sa _) e he;have hfl:=hv.flen;refine⟨h1.1,h1.2.1,fun c=>h1.2.2 (by rw[c]),?_,?_⟩
 show(0:Int)<=(f:Int); omega
 show(f:Int)<64; omega
def uG(E:VB Ed)(i k:Nat):VB dS:=if 0<=fc E i k\/0<=fc E k i then[((i:Int),(k:Int),fc E i k,fc E k i)] else[]
def AV(E:VB Ed)(N:Nat):VB dS:=acc (fun i=>acc (fun j=>uG E i (i+1+j)) (N-(i+1))) N
def Ii{E:VB Ed}{i k:Nat}:(uG E i k).length<=1:=by unfold uG; split<;>simp
def kB{E:VB Ed}{i k:Nat}{x:dS}:x∈uG E i k↔(0<=fc E i k\/0<=fc E k i)/\x=((i:Int),(k:Int),fc E i k,fc E k i):=by
 unfold uG
 split
 rename_i h; rw[Se]; exact⟨fun e=>⟨h,e⟩,fun e=>e.2⟩
 rename_i h; exact⟨fun e=>(by cases e),fun e=>Sw e.1 h⟩
def xW{α:Type}{g:Nat->VB α}{x:α}:∀{k i:Nat},i<k->x∈g i->x∈acc g k
 | k+1,i,hi,h=>by
  rw[acc,St]
  by_cases c:i=k
  exact .inr (by rw[<-c]; exact h)
  exact .inl (xW (by omega) h)
def xE{E:VB Ed}{N:Nat}{x:dS}:x∈AV E N↔∃i k:Nat,i<k/\k<N/\(0<=fc E i k\/0<=fc E k i)/\x=((i:Int),(k:Int),fc E i k,fc E k i):=by
 unfold AV;constructor
 intro h;obtain⟨i,hi,h⟩:=fy h;obtain⟨j,hj,h⟩:=fy h;exact⟨i,i+1+j,by omega,by omega,kB.1 h⟩
 rintro⟨i,k,h1,h2,h3⟩;refine xW (i:=i) (by omega) (xW (i:=k-(i+1)) (by omega) ?_)
 rw[show i+1+(k-(i+1))=k by omega]
 exact kB.2 h3
def O2(x y:dS):Prop:=x.1<y.1\/x.1=y.1/\x.2.1<y.2.1
def tZ{α:Type}{R:α->α->Prop}{g:Nat->VB α}(h1:∀i,(g i).Pairwise R)(h2:∀i j,i<j->∀x∈g i,∀y∈g j,R x y):∀k,(acc g k).Pairwise R
 | 0=>.nil
 | k+1=>by
  rw[acc,Tp];refine⟨tZ h1 h2 k,h1 k,fun x hx y hy=>?_⟩;obtain⟨i,hi,h⟩:=fy hx;exact h2 i k hi x h y hy
def Bk(E:VB Ed)(N:Nat):(AV E N).Pairwise O2:=by
 refine tZ (fun i=>tZ (fun j=>?_) (fun j j' hj x hx y hy=>?_) _) (fun i i' hi x hx y hy=>?_) N
 unfold uG; split
 exact List.pairwise_singleton _ _
 exact .nil
 rw[(kB.1 hx).2,(kB.1 hy).2];exact .inr ⟨rfl,by show((i+1+j:Nat):Int)<((i+1+j':Nat):Int); omega⟩
 obtain⟨j,_,hx⟩:=fy hx;obtain⟨j',_,hy⟩:=fy hy;rw[(kB.1 hx).2,(kB.1 hy).2];exact .inl (by show(i:Int)<(i':Int); omega)
def Dj(E:VB Ed){N:Nat}(hN:N<=120):(AV E N).length<=120*120:=by
 have h1:=jL (g:=fun i=>acc (fun j=>uG E i (i+1+j)) (N-(i+1))) (b:=120) (k:=N) fun i _=>by
  have:=jL (g:=fun j=>uG E i (i+1+j)) (b:=1) (k:=N-(i+1)) fun j _=>Ii;omega
 have h2:N*120<=120*120:=Te _ hN;unfold AV; omega
def ne_of_lt{x y:dS}(h:O2 x y):x≠y:=fun e=>by subst e; unfold O2 at h; omega
def Eh(E:VB Ed)(N:Nat):(AV E N).Nodup:=(Bk E N).imp ne_of_lt
def Cp{N:Nat}{E:VB Ed}{m:VB ((Int×Int)×dS)}(h:Wm N E m){p:(Int×Int)×dS}(hp:p∈m):p.2=(p.1.1,p.1.2,fc E p.1.1 p.1.2,fc E p.1.2 p.1.1)/\(0<=fc E p.1.1 p.1.2\/0<=fc E p.1.2 p.1.1)/\0<=p.1.1/\p.1.1<p.1.2/\p.1.2<N:=by
 have h1:=h.rg p.1 (Sy.2 ⟨p,hp,rfl⟩);have h2:=(zr h.nd (k:=p.1) (v:=p.2)).2 hp;have h3:=h.get p.1.1 p.1.2 h1.2.1;rw[show dR m (p.1.1,p.1.2)=some p.2 from h2] at h3
 split at h3
 rename_i c;exact⟨Sb h3,c,h1⟩
 cases h3
def Ek{N:Nat}{E:VB Ed}{m:VB ((Int×Int)×dS)}(h:Wm N E m):(m.map Prod.snd).Perm (AV E N):=by
 have hnd:(m.map Prod.snd).Nodup:=by
  have e:(m.map Prod.snd).map (fun x:dS=>(x.1,x.2.1))=m.map Prod.fst:=by
   rw[Uf];refine List.map_congr_left fun p hp=>?_
   show(p.2.1,p.2.2.1)=p.1
   rw[(Cp h hp).1]
  have:=h.nd;rw[<-e] at this;exact List.Pairwise.of_map _ (fun a b hab c=>hab (by rw[c])) this
 refine(List.perm_ext_iff_of_nodup hnd (Eh E N)).2 fun x=>?_;rw[xE,Sy];constructor
 rintro⟨p,hp,rfl⟩;obtain⟨h1,h2,h3,h4,h5⟩:=Cp h hp;refine⟨p.1.1.toNat,p.1.2.toNat,by omega,by omega,?_⟩
 rw[To h3,To (by omega)]
 exact⟨h2,h1⟩
 rintro⟨i,k,h1,h2,h3,rfl⟩;refine⟨(((i:Int),(k:Int)),_),(zr h.nd).1 (?_:dR m ((i:Int),(k:Int))=some ((i:Int),(k:Int),fc E i k,fc E k i)),rfl⟩;rw[h.get _ _ (by omega),R7 h3]
def Nc(hv:Fcs pts F):E1 n pts F=some (AV (sE F) pts.length):=by
 have hw:=PE (sE F) (HT hv);have hN:=hv.len;unfold E1;rw[I3 100000 hv (by decide),ai]
 generalize(sE F).foldl IX []=m at *;have hp:=Ek hw;have hlen:(m.map Prod.snd).length<=120*120:=by rw[hp.length_eq]; exact Dj _ hN.2
 have ho:qz (AV (sE F) pts.length)=true:=by
  unfold qz;rw[R9];refine⟨Sp.2 fun x hx=>?_,Sd ?_⟩
  obtain⟨i,k,h1,h2,_,rfl⟩:=xE.1 hx;simp only[R9,Sj];omega
  refine List.Pairwise.map _ (fun x y hxy e=>?_) (Bk (sE F) pts.length);have e1:x.1=y.1:=(Prod.mk.inj e).1;have e2:x.2.1=y.2.1:=(Prod.mk.inj e).2;unfold O2 at hxy;omega
 have ho':=vL hp ho;rw[show(m.map fun x=>x.2)=m.map Prod.snd from rfl,ho',bw (by rw[Si] at hlen; omega)]
 show some _=some _
 refine SH some ?_;rw[vU ho',u0 hp ho];exact List.mergeSort_of_pairwise ((Bk _ _).imp fun{x y} h=>by unfold O2 at h; unfold dY; exact Sd (by omega))
end
end Go.Proofs.Ytmndpgfbkicndaa
end
section
namespace Jd
abbrev Eg:=I2×I2
def cD{α:Type}(f:α->Int):VB α->Int
 | []=>0
 | a::l=>f a+cD f l
section
variable{α β:Type}
def nA(f:α->Int):∀(l k:VB α),cD f (l++k)=cD f l+cD f k
 | [],k=>by simp[cD]
 | a::l,k=>by rw[TX,cD,cD,nA f l k]; omega
def bt{f g:α->Int}:∀{l:VB α},(∀a∈l,f a=g a)->cD f l=cD g l
 | [],_=>rfl
 | a::l,h=>by rw[cD,cD,h a Sv,bt fun b hb=>h b (Sf _ hb)]
def k9(f g:α->Int):∀(l:VB α),cD (fun a=>f a+g a) l=cD f l+cD g l
 | []=>rfl
 | a::l=>by rw[cD,cD,cD,k9 f g l]; omega
def lz(c:Int)(f:α->Int):∀(l:VB α),cD (fun a=>c*f a) l=c*cD f l
 | []=>by simp[cD]
 | a::l=>by rw[cD,cD,lz c f l,Ui]
def CV(f:α->Int)(l:VB α):cD (fun a=>-f a) l = -cD f l:=by
 have:=lz (-1) f l;rw[show(fun a=>-1*f a)=fun a=>-f a from funext fun a=>by omega] at this
 omega
def dz{f:α->Int}:∀{l:VB α},(∀a∈l,f a=0)->cD f l=0
 | [],_=>rfl
 | a::l,h=>by rw[cD,h a Sv,dz fun b hb=>h b (Sf _ hb)]; rfl
def gw(f:β->Int)(g:α->β):∀(l:VB α),cD f (l.map g)=cD (fun a=>f (g a)) l
 | []=>rfl
 | a::l=>by rw[Ts,cD,cD,gw f g l]
def tQ(f:β->Int)(g:α->VB β):∀(l:VB α),cD f (l.flatMap g)=cD (fun a=>cD f (g a)) l
 | []=>rfl
 | a::l=>by rw[List.flatMap_cons,nA,cD,tQ f g l]
def C7{f:α->Int}{a:α}:∀{l:VB α},l.Nodup->a∈l->(∀b∈l,b≠a->f b=0)->cD f l=f a
 | [],_,h,_=>by cases h
 | b::l,hd,hm,hz=>by
  obtain⟨h1,h2⟩:=TI.1 hd;rw[cD];rcases Sr.1 hm with rfl|hm
  rw[dz fun c hc=>hz c (Sf _ hc) fun e=>h1 (e▸hc)]; omega
  rw[hz b Sv fun e=>h1 (e▸hm),C7 h2 hm fun c hc=>hz c (Sf _ hc)]; omega
def px(f:α->β->Int)(l:VB α):∀(k:VB β),cD (fun a=>cD (f a) k) l=cD (fun b=>cD (fun a=>f a b) l) k
 | []=>dz fun _ _=>rfl
 | b::k=>by
  rw[cD,<-px f l k,<-k9]
  rfl
def fY(f:Nat->Int):∀n,aZ n f=cD f (List.range n)
 | 0=>rfl
 | n+1=>by rw[List.range_succ,nA,aZ,fY f n,cD,cD]; omega
def hZ{X:α->Rat}{P:α->Prop}:∀{l:VB α},(∃a,a∈l/\P a)->∃a,a∈l/\P a/\∀b∈l,P b->X a<=X b
 | [],h=>by obtain⟨a,h,_⟩:=h; cases h
 | c::l,h=>by
  by_cases hl:∃a,a∈l/\P a
  obtain⟨a,h1,h2,h3⟩:=hZ (X:=X) hl
  by_cases hc:P c/\X c<=X a
  refine⟨c,Sv,hc.1,fun b hb hP=>?_⟩;rcases Sr.1 hb with rfl|hb
  exact Rat.le_refl
  exact Rat.le_trans hc.2 (h3 b hb hP)
  refine⟨a,Sf _ h1,h2,fun b hb hP=>?_⟩;rcases Sr.1 hb with rfl|hb
  have:¬X b<=X a:=fun h=>hc ⟨hP,h⟩
  grind
  exact h3 b hb hP
  obtain⟨a,h1,h2⟩:=h;rcases Sr.1 h1 with rfl|h1
  refine⟨a,Sv,h2,fun b hb hP=>?_⟩;rcases Sr.1 hb with rfl|hb
  exact Rat.le_refl
  exact Sw ⟨b,hb,hP⟩ hl
  exact Sw ⟨a,h1,h2⟩ hl
end
def cq(r:VB I2):VB Eg:=(List.range r.length).map fun i=>(nx r i,nx r (i+1))
def wr(E:VB Eg)(p:P2):Int:=cD (fun e=>we (ca e.1) (ca e.2) p) E
def tw(r:VB I2)(p:P2):wr (cq r) p=W r.length (fun i=>ca (nx r i)) p:=by
 unfold wr cq W;rw[gw,fY]
def de(e:Eg)(y:Rat):Int:=dd (ca e.1) (ca e.2) y
def q7(E:VB Eg)(y:Rat):Prop:=∀e∈E,(ca e.1).2≠y/\(ca e.2).2≠y
def Xc(e:Eg)(y X:Rat):Prop:=(∀q:P2,q.2=y->we (ca e.1) (ca e.2) q=if q.1<X then de e y else 0) /\
 (de e y≠0->∃t,0<t/\t<1/\cv (ca e.1) (ca e.2) t=(X,y))
open Classical in
noncomputable def xc (e:Eg) (y:Rat):Rat:=if h:∃X,Xc e y X then h.choose else 0
def rf{e:Eg}{y:Rat}(h1:(ca e.1).2≠y)(h2:(ca e.2).2≠y):Xc e y (xc e y):=by
 have h:∃X,Xc e y X:=yA h1 h2;unfold xc;rw[dif_pos h];exact h.choose_spec
def Iw{u w q:P2}{t X y:Rat}(h:cv u w t=(X,y))(hq:q.2=y):tn u w q=(w.2-u.2)*(X-q.1):=by
 unfold cv at h;have a:=SH Prod.fst h;have b:=SH Prod.snd h;unfold tn
 dsimp only at a b
 rw[hq]
 grind
def gJ{E:VB Eg}{y:Rat}(hE:q7 E y){q:P2}(hq:q.2=y):wr E q=cD (fun e=>if q.1<xc e y then de e y else 0) E :=
 bt fun e he=>(rf (hE e he).1 (hE e he).2).1 q hq
def OV(E:VB Eg)(p:P2):Prop:=∀e∈E,de e p.2≠0->p.1≠xc e p.2
def pO{E:VB Eg}{p:P2}{X:Rat}(hE:q7 E p.2)(hp:p.1<X)(hmin:∀e∈E,de e p.2≠0->p.1<xc e p.2->X<=xc e p.2) :
  wr E p=wr E (X,p.2)+cD (fun e=>if xc e p.2=X then de e p.2 else 0) E:=by
 rw[gJ hE rfl,gJ hE (q:=(X,p.2)) rfl,<-k9];refine bt fun e he=>?_
 by_cases hd:de e p.2=0
 rw[hd]; simp
 have:=hmin e he hd
 dsimp only
 by_cases h1:p.1<xc e p.2
 have h2:=this h1;rw[R7 h1]
 by_cases h3:xc e p.2=X
 rw[R7 h3,R5 (by rw[h3]; grind)]; omega
 rw[R5 h3,R7 (by grind)]; omega
 rw[R5 h1,R5 (by grind),R5 (by grind)]; rfl
def tl{E:VB Eg}{p:P2}(hE:q7 E p.2)(h:wr E p≠0):∃e,e∈E/\de e p.2≠0/\p.1<xc e p.2:=by
 refine R8 fun hc=>h ?_;rw[gJ hE rfl];refine dz fun e he=>?_
 by_cases hd:de e p.2=0
 rw[hd]; simp
 exact R5 fun hx=>hc ⟨e,he,hd,hx⟩
def M1{r:VB I2}(h:VR r){s:Int}(g:Sg r s)(hs:s=1\/s = -1):(0<eE r->s=1)/\(eE r<0->s = -1):=by
 obtain⟨K,K0,hK⟩:=(Lg.all (n:=r.length) (P:=fun i K=>-K<(nx r i).1/\(nx r i).1<K/\-K<(nx r i).2/\(nx r i).2<K) fun i _ =>
  (Lg.ge (max (max (nx r i).1 (-(nx r i).1)) (max (nx r i).2 (-(nx r i).2))+1)).imp fun K h=>by omega).get
 have hb:∀i,Inb (-K) (-K) (2*K).toNat (2*K).toNat (nx r i):=fun i=>by
  have:=hK (i%r.length) (SY _ (by have:=h.n3; omega))
  rw[jh r (Nat.mod_mod i r.length)] at this;exact⟨by omega,by omega,by omega,by omega⟩
 have e:=pV hb;have key:∀p,(s=1->0<=Jd.cL r p+eK r p)/\(s = -1->Jd.cL r p+eK r p<=0):=fun p=>by
  have a:=g.BW h p;have b:=g.Gy h p;omega
 constructor
 intro ha;refine hs.resolve_right fun hs=>?_;have:bx (-K) (-K) (2*K).toNat (2*K).toNat (fun p=>Jd.cL r p+eK r p)<=0:=jN fun i _=>jN fun j _=>(key _).2 hs;omega
 intro ha;refine hs.resolve_left fun hs=>?_;have:bx (-K) (-K) (2*K).toNat (2*K).toNat (fun p=>-(Jd.cL r p+eK r p))<=0:=jN fun i _=>jN fun j _=>by have:=(key (-K+i,-K+j)).1 hs; dsimp only; omega
 rw[yr] at this;omega
def s5{r:VB I2}(h:VR r):∃s:Int,(s=1\/s = -1)/\(0<eE r->s=1)/\(eE r<0->s = -1)/\Sg r s /\
  ∀p:P2,q7 (cq r) p.2->OV (cq r) p->wr (cq r) p=0\/wr (cq r) p=s:=by
 obtain⟨s,hs,hm⟩:=h.simple.sign;have g:Sg r s:=h.FN hm;have:=M1 h g hs;refine⟨s,hs,this.1,this.2,g,fun p hg ho=>?_⟩;rw[tw];refine hm p fun i hi hl=>?_;have he:(nx r i,nx r (i+1))∈cq r:=Sy.2 ⟨i,SM.2 hi,rfl⟩;obtain⟨g1,g2⟩:=hg _ he
 dsimp only at g1 g2
 have hd:de (nx r i,nx r (i+1)) p.2≠0:=by
  unfold de dd
  dsimp only
  rcases hl with⟨a,b⟩|⟨a,b⟩
  rw[R7 ⟨by grind,b⟩]; decide
  rw[R5 (by grind),R7 ⟨by grind,b⟩]; decide
 obtain⟨t,t0,t1,ht⟩:=(rf (e:=(nx r i,nx r (i+1))) g1 g2).2 hd;have hx:=ho _ he hd;rw[Iw ht rfl]
 dsimp only
 intro h0;have h3:xc (nx r i,nx r (i+1)) p.2-p.1≠0:=by grind
 rcases Rat.mul_eq_zero.1 h0 with k|k
 grind
 exact h3 k
def xa(a b:I2):Lx a b\/Lx b a:=by unfold Lx; omega
def zw{a b x:I2}(h:cC a b x):0<=di a x b:=by
 obtain⟨_,h1,h2,h3,h4⟩:=h;have key:∀{a b x:Int},min a b<=x->x<=max a b->0<=(x-a)*(b-x):=fun{a b x} g1 g2=>by
  rcases Int.le_total a b with g|g
  exact SN (by omega) (by omega)
  exact TH (by omega) (by omega)
 have:=key h1 h2;have:=key h3 h4;unfold di; omega
def vl{x u w:I2}(h0:ti x u w=0)(hd:di x u w<0)(hx:x≠u)(hw:u≠w):cC u w x\/cC x u w:=by
 have r1:ti u w x=0:=by rw[Ga]; exact h0
 have r2:ti w x u=0:=by rw[Ga]; exact r1
 have r3:ti x w u=0:=by rw[eD]; omega
 have r4:ti u x w=0:=by rw[eD]; omega
 have r5:ti w u x=0:=by rw[eD]; omega
 rcases xa u x with a|a<;>rcases xa u w with b|b
 rcases xa x w with c|c
 exact .inl ((oR hw b).2 ⟨r1,a,c⟩)
 exact .inr ((oR (Ne.symm hx) a).2 ⟨r4,b,c⟩).swap
 by_cases e:w=x
 subst e; exact .inl (oe _ _)
 have h:Lx w x:=by unfold Lx at *; omega
 exact Sw (zw ((oR e h).2 ⟨r2,b,a⟩).swap) (by omega)
 by_cases e:x=w
 subst e; exact .inl (oe _ _)
 have h:Lx x w:=by unfold Lx at *; omega
 exact Sw (zw ((oR e h).2 ⟨r3,a,b⟩)) (by omega)
 rcases xa x w with c|c
 exact .inr ((oR hx a).2 ⟨h0,c,b⟩)
 exact .inl ((oR (Ne.symm hw) b).2 ⟨r5,c,a⟩).swap
def Pd(a b c:I2):dt (ca a) (ca b) (ca c)=((di a b c:Int):Rat):=by
 unfold dt ca di;simp only[Rat.intCast_sub,Tx,Um]
def kM{x u w:I2}(hx:x≠u)(hw:u≠w)(h:nj x u u w≠3){t s:Rat}(t0:0<t)(s0:0<s):Sep (ca x) (ca u) (cv (ca u) (ca w) t) (cv (ca u) (ca w) s):=by
 refine yM ?_ t0 s0
 by_cases h0:ti x u w=0
 right
 rw[Pd,eB];refine GD hx hw h0 fun hd=>h ?_;have:∃y z,gX x u u w y/\gX x u u w z/\y≠z:=by
  rcases vl h0 hd hx hw with g|g
  exact⟨x,u,⟨.inl rfl,oD _ _,g⟩,⟨.inr (.inl rfl),oe _ _,oD _ _⟩,hx⟩
  exact⟨u,w,⟨.inr (.inl rfl),oe _ _,oD _ _⟩,⟨.inr (.inr (.inr rfl)),g,oe _ _⟩,hw⟩
 unfold nj;rw[R7 this]
 left
 rw[mD];exact fun e=>h0 (by have:=Rat.intCast_inj (a:=ti x u w) (b:=0); simpa using e)
def sj(a b:P2)(t:Rat):cv a b t=cv b a (1-t):=by unfold cv; exact SO (by dsimp only; grind) (by dsimp only; grind)
def ve(a b c d:I2):nj a b d c=nj a b c d:=by
 rw[sb (a:=d) (b:=c) (c:=a) (d:=b),tR,sb]
def FZ{a b c d:I2}(hab:a≠b)(hcd:c≠d)(h:nj a b c d=0\/nj a b c d=1/\(a=c\/a=d\/b=c\/b=d)){t s:Rat}(t0:0<t)(t1:t<1)(s0:0<s)(s1:s<1) :
  Sep (ca a) (ca b) (cv (ca c) (ca d) t) (cv (ca c) (ca d) s):=by
 rcases h with h|⟨h,e|e|e|e⟩
 have m:=B1.1 h;exact CD (pQ hab hcd m.1 m.2) (by grind) (by grind) (by grind) (by grind)
 subst e;exact(kM (Ne.symm hab) hcd (by rw[tR,h]; decide) t0 s0).ab
 subst e;rw[sj _ _ t,sj _ _ s];exact(kM (Ne.symm hab) (Ne.symm hcd) (by rw[tR,ve,h]; decide) (by grind) (by grind)).ab
 subst e;exact kM hab hcd (by rw[h]; decide) t0 s0
 subst e;rw[sj _ _ t,sj _ _ s];exact kM hab (Ne.symm hcd) (by rw[ve,h]; decide) (by grind) (by grind)
def Fe{a b p:P2}{t:Rat}(h:Sep a b p p)(e:cv a b t=p)(t0:0<=t)(t1:t<=1):False:=by
 obtain⟨α,β,γ,h1,h2,h3,_⟩:=h;have:af α β γ p=(1-t)*af α β γ a+t*af α β γ b:=by rw[<-e]; unfold af cv; grind
 by_cases g:t=0
 subst g; grind
 have:=bo (show 0<t by grind) h2
 have:=bV (show 0<=1-t by grind) (show 0<=af α β γ a by grind)
 grind
structure Fce where
 o:VB I2
 hs:VB (VB I2)
def Fce.es(f:Fce):VB Eg:=(f.o::f.hs).flatMap cq
def Md(e:Eg):P2:=cv (ca e.1) (ca e.2) (1/2)
def lM(e:Eg):I2:=(e.1.1+e.2.1,e.1.2+e.2.2)
def jG(r:VB I2)(e:Eg):Prop:=∀g∈cq r,¬cC (bE 2 g.1) (bE 2 g.2) (lM e)
def wM(r:VB I2)(e:Eg):Int:=wr (cq r) (Md e)
def Nu(f:Fce)(e:Eg):Prop:=(jG f.o e/\wM f.o e≠0)/\∀h∈f.hs,jG h e/\wM h e=0
structure CxOk(fs:VB Fce):Prop where
 ro:∀f∈fs,VR f.o/\0<eE f.o
 rh:∀f∈fs,∀h∈f.hs,VR h/\eE h<0
 nd:(fs.flatMap Fce.es).Nodup
 zY:∀e∈fs.flatMap Fce.es,∀g∈fs.flatMap Fce.es,g≠e->g≠(e.2,e.1)->nj g.1 g.2 e.1 e.2=0\/nj g.1 g.2 e.1 e.2=1/\(g.1=e.1\/g.1=e.2\/g.2=e.1\/g.2=e.2)
 hole:∀f∈fs,∀k (hk:k<f.hs.length),∀e∈cq f.hs[k],(jG f.o e/\wM f.o e≠0)/\∀j (hj:j<f.hs.length),j≠k->jG f.hs[j] e/\wM f.hs[j] e=0
 over:∀i j (hi:i<fs.length) (hj:j<fs.length),i≠j->∀e∈fs[i].es,¬Nu fs[j] e
def je{r:VB I2}(h:VR r){e:Eg}(he:e∈cq r):e.1≠e.2:=by
 obtain⟨i,_,rfl⟩:=Sy.1 he;exact h.still i
def Kj{r:VB I2}(h:VR r){p q:P2}(hs:∀e∈cq r,Sep (ca e.1) (ca e.2) p q):wr (cq r) p=wr (cq r) q:=by
 rw[tw,tw];exact yj h.simple.cl fun i hi=>hs _ (Sy.2 ⟨i,SM.2 hi,rfl⟩)
def JM{a b:I2}{e:Eg}(hab:a≠b)(h:Sep (ca a) (ca b) (Md e) (Md e)):¬cC (bE 2 a) (bE 2 b) (lM e):=by
 intro hb;obtain⟨α,β,γ,h1,h2,h3,_⟩:=h;have k:∀a:I2,af α β (2*γ) (ca (bE 2 a))=2*af α β γ (ca a):=fun a=>by
  unfold af ca bE;simp only[Tx];have:((2:Int):Rat)=2:=rfl;rw[this]; grind
 have hne:bE 2 a≠bE 2 b:=fun e=>hab ((jV (s:=2) (by decide)).inj e)
 have:=wh hne hb (α:=α) (β:=β) (γ:=2*γ) (by rw[k]; grind) (by rw[k]; grind)
 have e2:af α β (2*γ) (ca (lM e))=2*af α β γ (Md e):=by
  unfold af ca lM Md cv ca;simp only[Um]
  grind
 grind
section
variable{fs:VB Fce}
def Fj{f:Fce}{r:VB I2}(hr:r=f.o\/r∈f.hs){e:Eg}(he:e∈cq r):e∈f.es:=by
 unfold Fce.es;refine SR.2 ⟨r,?_,he⟩;rcases hr with rfl|hr
 exact Sv
 exact Sf _ hr
def Hj{f:Fce}{e:Eg}(he:e∈f.es):∃r,(r=f.o\/r∈f.hs)/\e∈cq r:=by
 obtain⟨r,h1,h2⟩:=SR.1 he;exact⟨r,Sr.1 h1,h2⟩
def Cl{f:Fce}(hf:f∈fs){e:Eg}(he:e∈f.es):e∈fs.flatMap Fce.es:=SR.2 ⟨f,hf,he⟩
def HL(r:VB I2)(p:I2):cL r p=cD (fun e=>wi e.1 e.2 p) (cq r):=by
 unfold cL cq;rw[fY,gw]
end
def sh(K:Int)(a:I2):I2:=(a.1,a.2+K*a.1)
section
variable{K:Int}
def oB(a b c:I2):ti (sh K a) (sh K b) (sh K c)=ti a b c:=by unfold ti sh; grind
def qh{a b:I2}(h:sh K a=sh K b):a=b:=by
 unfold sh at h;have h1:=SH Prod.fst h;have h2:=SH Prod.snd h
 dsimp only at h1 h2
 rw[h1] at h2;exact SO h1 (by omega)
def xH(a:I2):sh (-K) (sh K a)=a:=by unfold sh; exact SO rfl (by dsimp only; rw[Int.neg_mul]; omega)
def C4{a b c:I2}(h:cC a b c):cC (sh K a) (sh K b) (sh K c):=by
 by_cases hab:a=b
 subst hab;have:c=a:=by
  obtain⟨_,h1,h2,h3,h4⟩:=h;exact SO (by omega) (by omega)
 subst this;exact oD _ _
 obtain⟨w1,w2,D,p1,p2,p3,p4,p5,p6⟩:=CO hab h;obtain⟨h0,h1,h2,h3,h4⟩:=h;refine⟨by rw[oB]; exact h0,h1,h2,?_⟩
 have e:D*(sh K c).2=w1*(sh K a).2+w2*(sh K b).2:=by
  unfold sh
  dsimp only
  rw[Ui,Ui,Ui,show D*(K*c.1)=K*(D*c.1) by grind,p5,p6]
  grind
 generalize(sh K a).2=x at *;generalize(sh K b).2=z at *;generalize(sh K c).2=y at *;rcases Int.le_total x z with g|g
 have q1:=SN p2 (show 0<=z-x by omega)
 have q2:=SN p1 (show 0<=z-x by omega)
 have r1:D*(y-x)=w2*(z-x):=by rw[Int.mul_sub,e,<-p3]; grind
 have r2:D*(z-y)=w1*(z-x):=by rw[Int.mul_sub,e,<-p3]; grind
 have s1:¬y-x<0:=fun k=>by have:=T2 p4 k; omega
 have s2:¬z-y<0:=fun k=>by have:=T2 p4 k; omega
 omega
 have q1:=SN p2 (show 0<=x-z by omega)
 have q2:=SN p1 (show 0<=x-z by omega)
 have r1:D*(x-y)=w2*(x-z):=by rw[Int.mul_sub,e,<-p3]; grind
 have r2:D*(y-z)=w1*(x-z):=by rw[Int.mul_sub,e,<-p3]; grind
 have s1:¬x-y<0:=fun k=>by have:=T2 p4 k; omega
 have s2:¬y-z<0:=fun k=>by have:=T2 p4 k; omega
 omega
def qt{a b c:I2}:cC (sh K a) (sh K b) (sh K c)↔cC a b c :=
 ⟨fun h=>by have:=C4 (K:=-K) h; rwa[xH,xH,xH] at this,C4⟩
def A2{a b c d x:I2}:gX (sh K a) (sh K b) (sh K c) (sh K d) (sh K x)↔gX a b c d x:=by
 unfold gX;rw[qt,qt];constructor
 rintro⟨g,e⟩;exact⟨by rcases g with g|g|g|g<;>simp[qh g],e⟩
 rintro⟨g,e⟩;exact⟨by rcases g with g|g|g|g<;>simp[g],e⟩
def E6{a b c d:I2}:wQ (sh K a) (sh K b) (sh K c) (sh K d)↔wQ a b c d:=by
 unfold wQ;rw[oB,oB,oB,oB]
def Pk{a b c d:I2}:NM (sh K a) (sh K b) (sh K c) (sh K d)↔NM a b c d:=by
 rw[wE,wE,E6];refine and_congr_left fun _=>⟨fun g x hx=>g (sh K x) (A2.2 hx),fun g x hx=>?_⟩;have:∃y,x=sh K y:=by
  rcases hx.1 with e|e|e|e<;>exact⟨_,e⟩
 obtain⟨y,rfl⟩:=this;exact g y (A2.1 hx)
def P5{r:VB I2}(v:VR r):VR (r.map (sh K)):=by
 have hr:r≠[]:=v.ne_nil;refine⟨by rw[Si]; exact v.n3,fun i=>?_,fun i=>?_,fun j i h1 h2 h3=>?_⟩
 rw[bf _ hr,bf _ hr];exact fun e=>v.still i (qh e)
 rw[bf _ hr,bf _ hr,bf _ hr,oB];rintro⟨e1,e2⟩;have n1:sh K (nx r i)≠sh K (nx r (i+1)):=fun e=>v.still i (qh e);have n2:sh K (nx r (i+1))≠sh K (nx r (i+2)):=fun e=>v.still (i+1) (qh e);rcases vl (by rw[oB]; exact e1) e2 n1 n2 with g|g
 have g:=qt.1 g;exact v.spike i (xF (p:=nx r i) (oD _ _) g (v.still i))
 have g:=qt.1 g;exact v.spike i (xF (p:=nx r (i+2)) g (oe _ _) (Ne.symm (v.still (i+1))))
 rw[Si] at h2 h3;rw[bf _ hr,bf _ hr,bf _ hr,bf _ hr,Pk];exact v.meet j i h1 h2 h3
def NS{r:VB I2}(h:r≠[]):eE (r.map (sh K))=eE r:=by
 unfold eE;rw[Si];refine aE fun i _=>?_;rw[bf _ h,bf _ h];unfold sh; grind
def D4(K:Int)(p v:I2):Int:=if v.2<=p.2/\(sh K p).2<(sh K v).2 then 1 else 0
def M4(K:Int)(a b p:I2):K*ti a b p=((a.2-p.2)+K*(a.1-p.1))*(b.2-p.2)-(a.2-p.2)*((b.2-p.2)+K*(b.1-p.1)):=by unfold ti; grind
def w0{x y z T:Int}(h:x<=z↔y<=z):(if x<=z/\z<y/\0<T then(1:Int) else if y<=z/\z<x/\T<0 then -1 else 0)=0:=by
 rw[UG,UG]
def wu{x y z T:Int}(h1:x<=z)(h2:z<y):(if x<=z/\z<y/\0<T then(1:Int) else if y<=z/\z<x/\T<0 then -1 else 0)=if 0<T then 1 else 0:=by
 by_cases h:0<T
 rw[R7 ⟨h1,h2,h⟩,R7 h]
 rw[UG,UG,R5 h]
def wd{x y z T:Int}(h1:z<x)(h2:y<=z):(if x<=z/\z<y/\0<T then(1:Int) else if y<=z/\z<x/\T<0 then -1 else 0)=if T<0 then -1 else 0:=by
 by_cases h:T<0
 rw[UG,R7 ⟨h2,h1,h⟩,R7 h]
 rw[UG,UG,R5 h]
def Pt{a b p:I2}(hK:0<K)(h:¬cC a b p):wi (sh K a) (sh K b) (sh K p)-wi a b p=D4 K p b-D4 K p a:=by
 have hs:=oB (K:=K) a b p;have h0:∀{a b:I2},¬cC a b p->(a.2<=p.2/\p.2<b.2)->ti a b p≠0:=fun h g e=>h (gP (.inl g) e);have h1:∀{a b:I2},¬cC a b p->((sh K a).2<=(sh K p).2/\(sh K p).2<(sh K b).2)->ti a b p≠0:=fun h g e=>h (qt.1 (gP (.inl g) (by rw[oB]; exact e)))
 have key:∀{a b:I2},¬cC a b p->(a.2<=p.2\/p.2<b.2)->((a.2<=p.2↔b.2<=p.2)->((sh K a).2<=(sh K p).2\/(sh K p).2<(sh K b).2))->wi (sh K a) (sh K b) (sh K p)-wi a b p=D4 K p b-D4 K p a:=by
  intro a b h hu hr;have hs:=oB (K:=K) a b p;have n0:=h0 h;have n1:=h1 h;have e:=M4 K a b p;have pos:0<K*ti a b p↔0<ti a b p:=iP hK;have neg:K*ti a b p<0↔ti a b p<0:=eU hK;have zero:K*ti a b p=0↔ti a b p=0:=by rw[Tu]; omega
  unfold wi D4;rw[hs];have ea:(sh K a).2-(sh K p).2=(a.2-p.2)+K*(a.1-p.1):=by unfold sh; grind
  have eb:(sh K b).2-(sh K p).2=(b.2-p.2)+K*(b.1-p.1):=by unfold sh; grind
  rw[<-ea,<-eb] at e;simp only[<-pos,<-neg];have n0':a.2<=p.2/\p.2<b.2->K*ti a b p≠0:=fun g k=>n0 g (zero.1 k);have n1':(sh K a).2<=(sh K p).2/\(sh K p).2<(sh K b).2->K*ti a b p≠0:=fun g k=>n1 g (zero.1 k);generalize K*ti a b p=T at *;clear pos neg zero n0 n1 h0 h1 hs ea eb;generalize(sh K a).2=A at *;generalize(sh K b).2=B at *;generalize(sh K p).2=P at *;have nn:∀{x y:Int},0<=x->0<=y->0<=x*y:=SN
  by_cases ua:a.2<=p.2
  by_cases ub:b.2<=p.2
  rw[w0 (x:=a.2) (by omega)]
  by_cases va:A<=P
  by_cases vb:B<=P
  rw[w0 (by omega),UG,UG]
  have g1:=nn (show 0<=P-A by omega) (show 0<=p.2-b.2 by omega)
  have g2:=nn (show 0<=p.2-a.2 by omega) (show 0<=B-P by omega)
  have:(A-P)*(b.2-p.2)-(a.2-p.2)*(B-P)=(P-A)*(p.2-b.2)+(p.2-a.2)*(B-P):=by grind
  have:=n1' ⟨va,by omega⟩
  rw[wu va (by omega),UH,UH,UG]
  rw[w0 (by omega),UH,UH]; rfl
  by_cases va:A<=P
  by_cases vb:B<=P
  have g1:=nn (show 0<=P-A by omega) (show 0<=b.2-p.2 by omega)
  have g2:=nn (show 0<=p.2-a.2 by omega) (show 0<=P-B by omega)
  have:(A-P)*(b.2-p.2)-(a.2-p.2)*(B-P) = -((P-A)*(b.2-p.2))-(p.2-a.2)*(P-B):=by grind
  rw[w0 (by omega),wu ua (by omega),UG,UG,UG]
  rw[wu va (by omega),wu ua (by omega),R5 (show ¬(b.2<=p.2/\P<B) by omega),R5 (show ¬(a.2<=p.2/\P<A) by omega)]; omega
  by_cases vb:B<=P
  have:=n0' ⟨ua,by omega⟩
  rw[wd (by omega) vb,wu ua (by omega),R5 (show ¬(b.2<=p.2/\P<B) by omega),R7 (show a.2<=p.2/\P<A by omega)]
  by_cases h:0<T
  rw[UG,R7 h]
  rw[UH,R5 h]; rfl
  have g1:=nn (show 0<=A-P by omega) (show 0<=b.2-p.2 by omega)
  have g2:=nn (show 0<=p.2-a.2 by omega) (show 0<=B-P by omega)
  have:(A-P)*(b.2-p.2)-(a.2-p.2)*(B-P)=(A-P)*(b.2-p.2)+(p.2-a.2)*(B-P):=by grind
  have:=n0' ⟨ua,by omega⟩
  rw[w0 (by omega),wu ua (by omega),UH,UG,UH]
  have ub:¬b.2<=p.2:=by omega
  rw[w0 (x:=a.2) (by omega),R5 (show ¬(b.2<=p.2/\P<B) by omega),R5 (show ¬(a.2<=p.2/\P<A) by omega)]
  by_cases va:A<=P
  by_cases vb:B<=P
  rw[w0 (by omega)]
  have g1:=nn (show 0<=P-A by omega) (show 0<=b.2-p.2 by omega)
  have g2:=nn (show 0<=a.2-p.2 by omega) (show 0<=B-P by omega)
  have:(A-P)*(b.2-p.2)-(a.2-p.2)*(B-P) = -((P-A)*(b.2-p.2))-(a.2-p.2)*(B-P):=by grind
  rw[wu va (by omega),UG]
  rw[w0 (by omega)]
 by_cases hu:a.2<=p.2\/p.2<b.2
 by_cases hr:(a.2<=p.2↔b.2<=p.2)->((sh K a).2<=(sh K p).2\/(sh K p).2<(sh K b).2)
 exact key h hu hr
 have:=key (a:=b) (b:=a) (fun g=>h g.swap) (by omega) (by omega)
 rw[nQ,nQ a b] at this;omega
 have:=key (a:=b) (b:=a) (fun g=>h g.swap) (by omega) (by omega)
 rw[nQ,nQ a b] at this;omega
def JQ{r:VB I2}(hK:0<K)(h:r≠[]){p:I2}(hp:∀i,i<r.length->¬cC (nx r i) (nx r (i+1)) p):cL (r.map (sh K)) (sh K p)=cL r p:=by
 have h1:=fU r.length (fun i=>wi (sh K (nx r i)) (sh K (nx r (i+1))) (sh K p)) fun i=>wi (nx r i) (nx r (i+1)) p;have h2:=kH r.length fun i=>D4 K p (nx r i);rw[aE fun i hi=>Pt hK (hp i hi),h2,lC] at h1;have e:cL (r.map (sh K)) (sh K p)=aZ r.length fun i=>wi (sh K (nx r i)) (sh K (nx r (i+1))) (sh K p):=by
  unfold cL;rw[Si];exact aE fun i _=>by rw[bf _ h,bf _ h]
 unfold cL at *;omega
end
def Mt(g e:Eg):Prop:=nj g.1 g.2 e.1 e.2=0\/nj g.1 g.2 e.1 e.2=1/\(g.1=e.1\/g.1=e.2\/g.2=e.1\/g.2=e.2)
def Mt.symm{g e:Eg}(h:Mt g e):Mt e g:=by
 unfold Mt at *;rw[sb];rcases h with h|⟨h,k⟩
 exact .inl h
 exact .inr ⟨h,by rcases k with k|k|k|k<;>simp[k]⟩
def CE(e:Eg):cC (bE 2 e.1) (bE 2 e.2) (lM e):=by
 unfold cC ti bE lM;refine⟨by grind,?_⟩
 dsimp only
 omega
def jG.pU{r:VB I2}{e:Eg}(h:jG r e):e∉cq r/\(e.2,e.1)∉cq r:=by
 refine⟨fun k=>h e k (CE e),fun k=>h _ k ?_⟩;have:=CE (e.2,e.1);unfold lM at this ⊢;rw[Int.add_comm,Int.add_comm e.1.2];exact this
def rm{r:VB I2}(h:r≠[])(e:Eg):wM r e=cL (r.map (bE 2)) (lM e):=by
 have hp:Md e=(((lM e).1:Rat)*(1/2),((lM e).2:Rat)*(1/2)):=by
  unfold Md cv lM ca;simp only[Um];exact SO (by dsimp only; grind) (by dsimp only; grind)
 unfold wM cL;rw[tw,Si];refine aE fun i _=>?_;rw[hp,bf _ h,bf _ h];exact rX (N:=2) (by decide) (by have:((2:Int):Rat)=2:=rfl; rw[this]; grind) _ _ _
def D9(φ:I2->I2)(e:Eg):Eg:=(φ e.1,φ e.2)
def jJ(φ:I2->I2){r:VB I2}(h:r≠[]):cq (r.map φ)=(cq r).map (D9 φ):=by
 unfold cq;rw[Si,Uf];exact List.map_congr_left fun i _=>by unfold D9; dsimp only[Function.comp]; rw[bf _ h,bf _ h]
structure Mp(φ:I2->I2):Prop where
 inj:∀{a b},φ a=φ b->a=b
 how_eq:∀a b c d,nj (φ a) (φ b) (φ c) (φ d)=nj a b c d
 vr:∀{r},VR r->VR (r.map φ)
 ar:∃c:Int,0<c/\∀r,r≠[]->eE (r.map φ)=c*eE r
 btw:∀{a b c},cC (φ a) (φ b) (φ c)↔cC a b c
 g2:∀a,φ (bE 2 a)=bE 2 (φ a)
 rC:∀e:Eg,φ (lM e)=lM (D9 φ e)
 wnd:∀{r},VR r->∀{p},(∀i,i<r.length->¬cC (nx r i) (nx r (i+1)) p)->cL (r.map φ) (φ p)=cL r p
def xr{φ:I2->I2}(hc:∀{a b c d x},gX (φ a) (φ b) (φ c) (φ d) (φ x)↔gX a b c d x)(hi:∀{a b},φ a=φ b->a=b)(hk:∀{a b c d},wQ (φ a) (φ b) (φ c) (φ d)↔wQ a b c d)(a b c d:I2) :
  nj (φ a) (φ b) (φ c) (φ d)=nj a b c d:=by
 classical
 have im:∀{x},gX (φ a) (φ b) (φ c) (φ d) x->∃y,x=φ y:=fun{x} hx=>by rcases hx.1 with e|e|e|e<;>exact⟨_,e⟩
 have e1:(∃x y,gX (φ a) (φ b) (φ c) (φ d) x/\gX (φ a) (φ b) (φ c) (φ d) y/\x≠y)↔∃x y,gX a b c d x/\gX a b c d y/\x≠y:=by
  constructor
  rintro⟨x,y,hx,hy,hn⟩;obtain⟨x,rfl⟩:=im hx;obtain⟨y,rfl⟩:=im hy;exact⟨x,y,hc.1 hx,hc.1 hy,fun e=>hn (by rw[e])⟩
  rintro⟨x,y,hx,hy,hn⟩;exact⟨φ x,φ y,hc.2 hx,hc.2 hy,fun e=>hn (hi e)⟩
 have e2:(∃x,gX (φ a) (φ b) (φ c) (φ d) x)↔∃x,gX a b c d x:=by
  constructor
  rintro⟨x,hx⟩;obtain⟨x,rfl⟩:=im hx;exact⟨x,hc.1 hx⟩
  rintro⟨x,hx⟩;exact⟨φ x,hc.2 hx⟩
 unfold nj;simp only[e1,e2,hk]
def PQ{K:Int}(hK:0<K):Mp (sh K) where
 inj:=qh
 how_eq:=xr A2 qh E6
 vr:=P5
 ar:=⟨1,by decide,fun r h=>by rw[NS h]; omega⟩
 btw:=qt
 g2 a:=by unfold sh bE; exact SO rfl (by dsimp only; grind)
 rC e:=by unfold sh lM D9; exact SO rfl (by dsimp only; grind)
 wnd v p hp:=JQ hK v.ne_nil hp
def MT:Mp om where
 inj:=nS.inj
 how_eq:=xr nS.Ff nS.inj nS.QO
 vr:=nS.vr
 ar:=⟨1,by decide,fun r h=>by
  unfold eE;rw[Si,Int.one_mul];exact aE fun i _=>by rw[bf _ h,bf _ h]; unfold om; grind⟩
 btw:=xh
 g2 a:=by unfold om bE; exact SO (by dsimp only; omega) (by dsimp only; omega)
 rC e:=by unfold om lM D9; exact SO (by dsimp only; omega) (by dsimp only; omega)
 wnd v p hp:=by rw[mn v.ne_nil,AH hp]
def NG{N:Int}(hN:0<N)(a b p:I2):wi (bE N a) (bE N b) (bE N p)=wi a b p:=by
 have hNN:=TJ hN hN;unfold wi;rw[B8];simp only[iP hNN,eU hNN];unfold bE
 dsimp only
 have l:∀{x y:Int},x*N<y*N↔x<y:=fun{x y}=>by rw[<-Int.not_le,<-Int.not_le,ku hN]
 simp only[ku hN,l]
def wS{r:VB I2}(N:Int)(h:r≠[]):eE (r.map (bE N))=N*N*eE r:=by
 unfold eE;rw[Si,<-lU];exact aE fun i _=>by rw[bf _ h,bf _ h]; unfold bE; grind
def LZ{N:Int}(hN:0<N):Mp (bE N) where
 inj:=(jV hN).inj
 how_eq:=xr (jV hN).Ff (jV hN).inj (jV hN).QO
 vr:=(jV hN).vr
 ar:=⟨N*N,TJ hN hN,fun r h=>wS N h⟩
 btw:=Dh hN
 g2 a:=by unfold bE; exact SO (by dsimp only; grind) (by dsimp only; grind)
 rC e:=by unfold bE lM D9; exact SO (by dsimp only; grind) (by dsimp only; grind)
 wnd v p hp:=by
  unfold cL;rw[Si];exact aE fun i _=>by rw[bf _ v.ne_nil,bf _ v.ne_nil,NG hN]
section
variable{φ:I2->I2}
def Mp.P6(M:Mp φ){r:VB I2}(h:r≠[]){e:Eg}(ho:jG r e):jG (r.map φ) (D9 φ e):=by
 intro g hg;rw[jJ φ h] at hg;obtain⟨g',hg',rfl⟩:=Sy.1 hg;unfold D9
 dsimp only
 rw[<-M.g2,<-M.g2];have:=M.rC e;unfold D9 at this;rw[<-this,M.btw];exact ho g' hg'
def Np(M:Mp φ)(r:VB I2):(r.map φ).map (bE 2)=(r.map (bE 2)).map φ:=by
 rw[Uf,Uf];exact List.map_congr_left fun a _=>(M.g2 a).symm
def Mp.rm(M:Mp φ){r:VB I2}(v:VR r){e:Eg}(ho:jG r e):wM (r.map φ) (D9 φ e)=wM r e:=by
 have h:=v.ne_nil;rw[Jd.rm (by simpa using h),Jd.rm h,Np M,<-M.rC]
 have v2:=(jV (s:=2) (by decide)).vr v
 refine M.wnd v2 fun i hi=>?_;rw[Si] at hi;rw[bf _ h,bf _ h];exact ho _ (Sy.2 ⟨i,SM.2 hi,rfl⟩)
def Mp.mt(M:Mp φ){g e:Eg}(h:Mt g e):Mt (D9 φ g) (D9 φ e):=by
 unfold Mt D9 at *;rw[M.how_eq];rcases h with h|⟨h,k⟩
 exact .inl h
 exact .inr ⟨h,by rcases k with k|k|k|k<;>simp[k]⟩
end
structure Pr(o h:VB I2):Prop where
 vo:VR o
 ao:0<eE o
 vh:VR h
 ah:eE h<0
 mt:∀e∈cq h,∀g∈cq o,Mt g e
 inn:∀e∈cq h,jG o e/\wM o e≠0
def Pr.map{φ:I2->I2}{o h:VB I2}(M:Mp φ)(p:Pr o h):Pr (o.map φ) (h.map φ):=by
 obtain⟨c,c0,hc⟩:=M.ar;refine⟨M.vr p.vo,?_,M.vr p.vh,?_,fun e he g hg=>?_,fun e he=>?_⟩
 rw[hc _ p.vo.ne_nil]; exact TJ c0 p.ao
 rw[hc _ p.vh.ne_nil]; exact T2 c0 p.ah
 rw[jJ _ p.vo.ne_nil] at hg;rw[jJ _ p.vh.ne_nil] at he;obtain⟨e',he',rfl⟩:=Sy.1 he;obtain⟨g',hg',rfl⟩:=Sy.1 hg;exact M.mt (p.mt e' he' g' hg')
 rw[jJ _ p.vh.ne_nil] at he;obtain⟨e',he',rfl⟩:=Sy.1 he;have:=p.inn e' he';exact⟨M.P6 p.vo.ne_nil this.1,by rw[M.rm p.vo this.1]; exact this.2⟩
def Ad(c:Int){α:Type}(f:α->Int)(l:VB α):cD (fun a=>f a*c) l=cD f l*c:=by
 rw[Int.mul_comm,<-lz];exact bt fun a _=>Int.mul_comm _ _
def HQ{E G:VB Eg}{y:Rat}(hn:∀e∈E,∀g∈G,de e y≠0->de g y≠0->xc e y≠xc g y)(gE:q7 E y)(gG:q7 G y)(x:Rat) :
  wr E (x,y)*wr G (x,y)=cD (fun e=>if x<xc e y then de e y*wr G (xc e y,y) else 0) E+cD (fun g=>if x<xc g y then de g y*wr E (xc g y,y) else 0) G:=by
 have e1:cD (fun g=>if x<xc g y then de g y*wr E (xc g y,y) else 0) G=cD (fun e=>cD (fun g=>if x<xc g y then de g y*(if xc g y<xc e y then de e y else 0) else 0) G) E:=by
  rw[px];refine bt fun g _=>?_
  by_cases h:x<xc g y
  rw[R7 h,gJ gE rfl,<-lz];exact bt fun e _=>by rw[R7 h]
  rw[R5 h,dz fun e _=>R5 h]
 have e2:cD (fun e=>if x<xc e y then de e y*wr G (xc e y,y) else 0) E=cD (fun e=>cD (fun g=>if x<xc e y then de e y*(if xc e y<xc g y then de g y else 0) else 0) G) E:=by
  refine bt fun e _=>?_
  by_cases h:x<xc e y
  rw[R7 h,gJ gG rfl,<-lz];exact bt fun g _=>by rw[R7 h]
  rw[R5 h,dz fun g _=>R5 h]
 rw[e1,e2,<-k9,gJ gE rfl,gJ gG rfl,<-Ad];refine bt fun e he=>?_;rw[<-lz,<-k9];refine bt fun g hg=>?_
 dsimp only
 by_cases h1:de e y=0
 rw[h1]; simp
 by_cases h2:de g y=0
 rw[h2]; simp
 have hne:=hn e he g hg h1 h2
 by_cases c1:x<xc e y
 by_cases c2:x<xc g y
 rw[R7 c1,R7 c2,R7 c1,R7 c2]
 by_cases c3:xc e y<xc g y
 rw[R7 c3,R5 (by grind)]; omega
 rw[R5 c3,R7 (by grind),Int.mul_comm]; omega
 rw[R7 c1,R5 c2,R7 c1,R5 c2,R5 (by grind)]; omega
 by_cases c2:x<xc g y
 rw[R5 c1,R5 c1,R7 c2,R7 c2,R5 (by grind)]; simp
 rw[R5 c1,R5 c1,R5 c2,R5 c2]; simp
end Jd
end
