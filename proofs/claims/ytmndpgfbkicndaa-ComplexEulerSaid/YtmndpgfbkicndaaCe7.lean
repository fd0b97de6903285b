/- A part of the proof. -/
import Derived.Test.YtmndpgfbkicndaaCe6
set_option linter.all false
section
namespace Go.Proofs.Ytmndpgfbkicndaa
section
open Go Go.Ab Go.Ab.W Go.Ab.B Jd
def ru(x:Int):Prop:=-9223372036854775808<=x/\x<9223372036854775808
def Fa(p:I2):Prop:=p.1 < -1000000\/1000000<p.1\/p.2 < -1000000\/1000000<p.2
instance(p:I2):Decidable (Fa p):=by unfold Fa; infer_instance
instance(a b p:I2):Decidable (cD a b p):=by unfold cD; infer_instance
def kh(a b:Int):ma a b=max a b:=by unfold ma; split<;>omega
def jH(a b:Int):mi a b=min a b:=by unfold mi; split<;>omega
def N1{x:Int}(h:ru x):XN (0-x)=if x = -9223372036854775808 then x else -x:=by
 unfold ru at h
 split
 rename_i e; subst e; decide
 rw[av (by omega) (by omega)]; omega
def uH(n:Nat){x y:Int}(hx:ru x)(hy:ru y):KS n x y=some (decide (Fa (x,y))):=by
 unfold KS;rw[N1 hx,N1 hy,aj,tq,<-Bool.decide_or]
 congr 1
 rw[decide_eq_decide];unfold ru at hx hy;unfold Fa
 dsimp only
 rw[kh,kh,kh,jH]
 split<;>split<;>omega
def sg(z:Int):Int:=if z<0 then -1 else if 0<z then 1 else 0
def Dq(n:Nat)(x y:Int):Px n x y=some (sg (x-y)):=by
 unfold Px Sd sg;simp only[decide_true,V4,aj,ib]
 by_cases h:x<y
 rw[aH h,U5 (show x-y<0 by omega)]
 rw[aF h,U3 (show ¬x-y<0 by omega)]
 by_cases g:y<x
 rw[aH g,U5 (show 0<x-y by omega)]
 rw[aF g,U3 (show ¬0<x-y by omega)]
def Nr(p:I2):Prop:=-1000000<=p.1/\p.1<=1000000/\-1000000<=p.2/\p.2<=1000000
def vp{p:I2}:¬Fa p↔Nr p:=by unfold Fa Nr; omega
def rI(n:Nat){a b c:I2}(ha:Nr a)(hb:Nr b)(hc:Nr c):KH n a.1 a.2 b.1 b.2 c.1 c.2=some (sg (ti a b c)):=by
 unfold Nr at ha hb hc;have m1:=iI (B:=2000000) (C:=2000000) (u:=b.1-a.1) (v:=c.2-a.2) (by decide) (by omega) (by omega) (by omega) (by omega)
 have m2:=iI (B:=2000000) (C:=2000000) (u:=b.2-a.2) (v:=c.1-a.1) (by decide) (by omega) (by omega) (by omega) (by omega)
 unfold KH;rw[av (x:=b.1-a.1) (by omega) (by omega),av (x:=c.2-a.2) (by omega) (by omega),av (x:=b.2-a.2) (by omega) (by omega),av (x:=c.1-a.1) (by omega) (by omega),
  av (by omega) (by omega),av (by omega) (by omega),aj,aj,Dq,aj]
 rfl
def qL{z:Int}:sg z=0↔z=0:=by unfold sg; split<;>(try split)<;>omega
def ux{z:Int}:sg z<0↔z<0:=by unfold sg; split<;>(try split)<;>omega
def jQ{z:Int}:0<sg z↔0<z:=by unfold sg; split<;>(try split)<;>omega
def qO(z:Int):sg z = -1\/sg z=0\/sg z=1:=by unfold sg; split<;>(try split)<;>simp
def Oa(n:Nat)(r s:Int)(hn:2<n):Rz n [r,s]=some (if r≠0 then r else s):=by
 obtain⟨n,rfl⟩:∃n',n=n'+3:=⟨n-3,by omega⟩
 have L0:sM (n+3) [r,s] 0=if r≠0 then some (.inr (.inl r)) else some (.inl 1):=by
  unfold sM;rw[aH (by simp),show cM 0 [r,s].length=true from rfl,bf]
  show ob (some r) _=_
  rw[aj]
  by_cases h:r=0
  rw[Vc h,V4,ib,U3 (by simpa using h)]; rfl
  rw[Vj h,VW,jm,U5 h]
 have L1:sM (n+3) [r,s] 1=if s≠0 then some (.inr (.inl s)) else some (.inl 2):=by
  unfold sM;rw[aH (by simp),show cM 1 [r,s].length=true from rfl,bf]
  show ob (some s) _=_
  rw[aj]
  by_cases h:s=0
  rw[Vc h,V4,ib,U3 (by simpa using h)]; rfl
  rw[Vj h,VW,jm,U5 h]
 have L2:sM (n+3) [r,s] 2=some (.inr (.inr ())):=by
  unfold sM;rw[aF (by simp)]
 unfold Rz
 by_cases h:r=0
 rw[U3 (by simpa using h)] at L0 ⊢
 rw[fy L0]
 by_cases g:s=0
 rw[U3 (by simpa using g)] at L1
 rw[fy L1,fG L2,aj,g]
 rw[U5 g] at L1;rw[fG L1,aj]
 rw[U5 h] at L0 ⊢;rw[fG L0,aj]
def SS(a b:I2):Int:=if sg (a.1-b.1)≠0 then sg (a.1-b.1) else sg (a.2-b.2)
def C8(n:Nat)(a b:I2)(hn:2<n):K7 n a.1 a.2 b.1 b.2=some (SS a b):=by
 unfold K7;rw[Dq,aj,Dq,aj,Oa n _ _ hn,aj]; rfl
def yN{a b:I2}:SS a b<=0↔Lx a b:=by
 unfold SS Lx;have h1:=qL (z:=a.1-b.1);have h2:=jQ (z:=a.1-b.1);have h3:=jQ (z:=a.2-b.2)
 split<;>omega
def Jh(n:Nat)(e:Int){a b p:I2}(ha:Nr a)(hb:Nr b)(hp:Nr p)(hab:a≠b)(hn:2<n):Qy n e a.1 a.2 b.1 b.2 p.1 p.2=some (decide (cD a b p)):=by
 unfold Qy;rw[rI n ha hb hp,aj]
 by_cases h0:ti a b p=0
 rw[Vc (qL.2 h0),V4,ib,C8 n a b hn,aj];have key:∀{u v:I2},u≠v->Lx u v->ti u v p=0->(ob (K7 n u.1 u.2 p.1 p.2) fun r28=>br (decide (r28<=0)) (ob (K7 n p.1 p.2 v.1 v.2) fun r31=>some (decide (r31<=0))) (some false))=some (decide (cD u v p)):=fun{u v} huv hl ht=>by
  rw[C8 n u p hn,aj,C8 n p v hn,aj,iD,<-V5]
  congr 1
  rw[decide_eq_decide,qp huv hl,yN,yN];exact⟨fun h=>⟨ht,h⟩,fun h=>h.2⟩
 by_cases hl:0<SS a b
 rw[aH hl,aj];have hl':Lx b a:=by
  have:¬Lx a b:=fun h=>by have:=yN.2 h; omega
  unfold Lx at this ⊢; omega
 have:=key hab.symm hl' (by rw[dU,h0]; rfl)
 dsimp only
 rw[this]
 congr 1
 rw[decide_eq_decide]; exact vn
 rw[aF hl,aj];exact key hab (yN.1 (by omega)) h0
 rw[Vj (fun h=>h0 (qL.1 h)),VW,jm,Vj fun h=>h0 h.1]
def qg{α β:Type}[DecidableEq α](k:α):∀(xs:YB (α×β)) (i:Nat),(cV k xs i=none/\k∉xs.map Prod.fst)\/∃j v,cV k xs i=some (i+j,v)/\(xs[j]?).map Prod.fst=some k
 | [],_=>.inl ⟨rfl,by simp⟩
 | e::es,i=>by
  unfold cV
  by_cases h:k=e.1
  rw[U5 h]; exact .inr ⟨0,e.2,rfl,by rw[h]; rfl⟩
  rw[U3 h];rcases qg k es (i+1) with⟨h1,h2⟩|⟨j,v,h1,h2⟩
  exact .inl ⟨h1,fun g=>by
   rw[V6,Vu] at g;exact g.elim h h2⟩
  exact .inr ⟨j+1,v,by rw[h1,show i+1+j=i+(j+1) by omega],h2⟩
def k9{α β:Type}[DecidableEq α](xs:YB (α×β))(k:α)(v:β):(fX xs k v).map Prod.fst=if k∈xs.map Prod.fst then xs.map Prod.fst else xs.map Prod.fst++[k]:=by
 unfold fX;rcases qg k xs 0 with⟨h1,h2⟩|⟨j,w,h1,h2⟩
 rw[h1,U3 h2]; simp
 rw[h1,VC];have hj:j<xs.length:=by
  refine U6 fun hc=>?_;rw[V8 (by omega)] at h2; cases h2
 have e:(xs.map Prod.fst)[j]? = some k:=by rw[VQ]; exact h2
 rw[U5 (VD e),List.map_set];refine Wg fun t=>?_;rw[List.getElem?_set]
 by_cases ht:j=t
 subst ht;rw[U5 rfl,U5 (by rw[Vf]; exact hj),e]
 rw[U3 ht]
def Ad(a b c d:I2)(l:YB (I2×Bool))(x:I2):YB (I2×Bool):=if cD a b x/\cD c d x then fX l x true else l
def Bv{a b c d:I2}:∀(xs:YB I2) (l:YB (I2×Bool)),(l.map Prod.fst).Nodup->((xs.foldl (Ad a b c d) l).map Prod.fst).Nodup/\∀q,q ∈(xs.foldl (Ad a b c d) l).map Prod.fst↔q∈l.map Prod.fst\/(q∈xs/\cD a b q/\cD c d q)
 | [],l,hn=>⟨hn,fun q=>by simp⟩
 | x::xs,l,hn=>by
  rw[List.foldl_cons];have key:((Ad a b c d l x).map Prod.fst).Nodup/\∀q,q ∈(Ad a b c d l x).map Prod.fst↔q∈l.map Prod.fst\/(q=x/\cD a b q/\cD c d q):=by
   unfold Ad
   by_cases h:cD a b x/\cD c d x
   rw[U5 h,k9]
   by_cases g:x∈l.map Prod.fst
   rw[U5 g];exact⟨hn,fun q=>⟨.inl,fun e=>e.elim id fun e=>e.1▸g⟩⟩
   rw[U3 g];refine⟨List.nodup_append.2 ⟨hn,by simp,fun u hu v hv=>?_⟩,fun q=>?_⟩
   rw[Vb] at hv;intro e; rw[e,hv] at hu; exact g hu
   rw[Vq,Vb];exact⟨fun e=>e.elim .inl fun e=>.inr ⟨e,e▸h⟩,fun e=>e.elim .inl fun e=>.inr e.1⟩
   rw[U3 h];exact⟨hn,fun q=>⟨.inl,fun e=>e.elim id fun⟨e,g⟩=>Vr (e▸g) h⟩⟩
  obtain⟨k1,k2⟩:=key;obtain⟨r1,r2⟩:=Bv xs _ k1;refine⟨r1,fun q=>?_⟩;rw[r2,k2,Vu];constructor
  rintro((h|⟨rfl,h⟩) |⟨h,g⟩)
  exact .inl h
  exact .inr ⟨.inl rfl,h⟩
  exact .inr ⟨.inr h,g⟩
  rintro(h|⟨rfl|h,g⟩)
  exact .inl (.inl h)
  exact .inl (.inr ⟨rfl,g⟩)
  exact .inr ⟨h,g⟩
def yM(n:Nat)(e f:Int){a b c d x:I2}(ha:Nr a)(hb:Nr b)(hc:Nr c)(hd:Nr d)(hx:Nr x)(hab:a≠b)(hcd:c≠d)(hn:2<n)(l:YB (I2×Bool)){i:Nat}(hi:i<4)(he:[a,b,c,d][i]? = some x) :
  tj n a.1 a.2 b.1 b.2 c.1 c.2 d.1 d.2 e f (l,(i:Int))=some (.inl (Ad a b c d l x,((i+1:Nat):Int))):=by
 unfold tj
 dsimp only
 rw[aH (by omega),aC hi,bf,VH]
 have:[(a.1,a.2),(b.1,b.2),(c.1,c.2),(d.1,d.2)][i]? = some (x.1,x.2):=he;rw[this,aj]
 dsimp only
 rw[Jh n e ha hb hx hab hn,aj,Jh n f hc hd hx hcd hn,aj,iD,aj,aw (by omega)]
 unfold Ad
 by_cases h:cD a b x/\cD c d x
 rw[Vc h.1,Vc h.2,U5 h]; rfl
 rw[U3 h,<-V5,Vj h]; rfl
def Kw(n:Nat)(e f:Int){a b c d:I2}(ha:Nr a)(hb:Nr b)(hc:Nr c)(hd:Nr d)(hab:a≠b)(hcd:c≠d)(hn:5<n):Qs n e a.1 a.2 b.1 b.2 f c.1 c.2 d.1 d.2=some (k5 a b c d):=by
 classical
 unfold Qs;rw[rI n ha hb hc,aj,rI n ha hb hd,aj,rI n hc hd ha,aj,rI n hc hd hb,aj];have L:bL (tj n a.1 a.2 b.1 b.2 c.1 c.2 d.1 d.2 e f) n ([],0)=some ([a,b,c,d].foldl (Ad a b c d) []):=by
  obtain⟨m,hm⟩:∃m,n=m+5:=⟨n-5,by omega⟩
  have L5:∀l,tj n a.1 a.2 b.1 b.2 c.1 c.2 d.1 d.2 e f (l,((4:Nat):Int))=some (.inr l):=fun l=>by
   unfold tj
   dsimp only
   rw[aF (by decide)]
  have h0:=yM n e f ha hb hc hd ha hab hcd (by omega) [] (i:=0) (by decide) rfl
  have h1:=yM n e f ha hb hc hd hb hab hcd (by omega) (Ad a b c d [] a) (i:=1) (by decide) rfl
  have h2:=yM n e f ha hb hc hd hc hab hcd (by omega) (Ad a b c d (Ad a b c d [] a) b) (i:=2) (by decide) rfl
  have h3:=yM n e f ha hb hc hd hd hab hcd (by omega) (Ad a b c d (Ad a b c d (Ad a b c d [] a) b) c) (i:=3) (by decide) rfl
  have:∀body:(YB (I2×Bool)×Int)->YA ((YB (I2×Bool)×Int)⊕YB (I2×Bool)),body=tj n a.1 a.2 b.1 b.2 c.1 c.2 d.1 d.2 e f->bL body n ([],0)=some ([a,b,c,d].foldl (Ad a b c d) []):=fun body hbd=>by
   rw[<-hbd] at h0 h1 h2 h3 L5;rw[hm,show(0:Int)=((0:Nat):Int) from rfl,fy h0,fy h1,fy h2,fy h3,fG (L5 _)]
   rfl
  exact this _ rfl
 obtain⟨k1,k2⟩:=Bv (a:=a) (b:=b) (c:=c) (d:=d) [a,b,c,d] [] (by simp)
 have hlen:([a,b,c,d].foldl (Ad a b c d) []).length=(([a,b,c,d].foldl (Ad a b c d) []).map Prod.fst).length:=by rw[Vf]
 rw[L,aj];generalize [a,b,c,d].foldl (Ad a b c d) []=l at *;have kc:∀q,q∈l.map Prod.fst↔gO a b c d q:=fun q=>by
  rw[k2];unfold gO;constructor
  rintro(h|⟨h,g⟩)
  simp at h
  exact⟨by simpa only[Vu,WX,or_false] using h,g⟩
  rintro⟨h,g⟩;exact .inr ⟨by simpa only[Vu,WX,or_false] using h,g⟩
 rw[aj,aj,hlen];generalize l.map Prod.fst=ks at *;unfold k5
 by_cases h2:∃x y,gO a b c d x/\gO a b c d y/\x≠y
 obtain⟨x,y,hx,hy,hne⟩:=h2;have:=xq (l:=[x,y]) (m:=ks) (by simp[hne]) fun q hq=>by
  simp only[Vu,WX,or_false] at hq;rcases hq with rfl|rfl
  exact(kc _).2 hx
  exact(kc _).2 hy
 have hl:2<=ks.length:=this;rw[aH (by omega),U5 ⟨x,y,hx,hy,hne⟩]
 ·have hl1:ks.length<=1:=by
   match ks,k1,kc with
   | [],_,_=>exact V9 _
   | [_],_,_=>exact U8 _
   | x::y::t,k1,kc =>
    refine Vr ⟨x,y,(kc x).1 (by simp),(kc y).1 (by simp),?_⟩ h2
    intro e; subst e; simp at k1
  rw[U3 h2,aF (by omega)]
  by_cases h1:∃x,gO a b c d x
  obtain⟨x,hx⟩:=h1;have:0<ks.length:=List.length_pos_of_mem ((kc x).2 hx);rw[U5 ⟨x,hx⟩,aH (by omega)]
  ·have:ks.length=0:=by
    match ks,kc with
    | [],_=>rfl
    | x::t,kc=>exact Vr ⟨x,(kc x).1 (by simp)⟩ h1
   rw[U3 h1,aF (by omega)]
   have w:∀u v:Int,XN (sg u*sg v)=sg u*sg v:=fun u v=>by
    have h1:=qO u;have h2:=qO v;rcases h1 with h1|h1|h1<;>rcases h2 with h2|h2|h2<;>rw[h1,h2]<;>decide
   have s:∀u v:Int,sg u*sg v<0↔(0<u/\v<0)\/(u<0/\0<v):=fun u v=>by
    have a1:=ux (z:=u);have a2:=jQ (z:=u);have b1:=ux (z:=v);have b2:=jQ (z:=v);have h1:=qO u;have h2:=qO v;rcases h1 with h1|h1|h1<;>rcases h2 with h2|h2|h2<;>rw[h1] at a1 a2 ⊢<;>rw[h2] at b1 b2 ⊢<;>omega
   rw[w,w,iD,aj,Jm]
   by_cases hx:vq a b c d
   rw[U5 hx,U5];unfold vq at hx;rw[Va,Vm,Vm,s,s];exact hx
   rw[U3 hx,U3];rw[Va,Vm,Vm,s,s];exact hx
def PV(n:Nat){a b c d:I2}(ha:ru a.1/\ru a.2)(hb:ru b.1/\ru b.2)(hc:ru c.1/\ru c.2)(hd:ru d.1/\ru d.2)(hn:5<n) :
  QV n a.1 a.2 b.1 b.2 c.1 c.2 d.1 d.2=some (if Fa a\/Fa b\/Fa c\/Fa d\/a=b\/c=d then(0,2) else(k5 a b c d,0)):=by
 classical
 unfold QV;rw[uH n ha.1 ha.2,uH n hb.1 hb.2,uH n hc.1 hc.2,uH n hd.1 hd.2,aj,aj,aj,aj,tq,tq,tq,tq,tq,aj];have e1:(decide (a.1=b.1)&&decide (a.2=b.2))=decide (a=b):=by
  rw[<-V5,decide_eq_decide]; exact⟨fun h=>VN h.1 h.2,fun h=>by subst h; exact⟨rfl,rfl⟩⟩
 have e2:(decide (c.1=d.1)&&decide (c.2=d.2))=decide (c=d):=by
  rw[<-V5,decide_eq_decide]; exact⟨fun h=>VN h.1 h.2,fun h=>by subst h; exact⟨rfl,rfl⟩⟩
 rw[e1,e2,Jm];have hd:(decide (Fa (a.1,a.2)) ||(decide (Fa (b.1,b.2)) ||(decide (Fa (c.1,c.2)) ||(decide (Fa (d.1,d.2)) ||(decide (a=b)||decide (c=d))))))=decide (Fa a\/Fa b\/Fa c\/Fa d\/a=b\/c=d):=by
  simp only[Bool.decide_or]
 rw[hd]
 by_cases h:Fa a\/Fa b\/Fa c\/Fa d\/a=b\/c=d
 rw[U5 (Vc h),U5 h]
 rw[U3 (by simpa using h),U3 h]
 simp only[not_or] at h;obtain⟨h1,h2,h3,h4,h5,h6⟩:=h;rw[Kw n 0 0 (vp.1 h1) (vp.1 h2) (vp.1 h3) (vp.1 h4) h5 h6 hn,aj]
end
section
open Go Go.Ab Go.Ab.W Go.Ab.B Jd
def cm{ρ:Type}(f:Nat->YA ρ)(e:ρ):Nat->Nat->ρ
 | 0,_=>e
 | k+1,i=>match f i with
  | some r=>r
  | none=>cm f e k (i+1)
def dM{ρ:Type}{B:Int->YA (Int⊕ρ)}{f:Nat->YA ρ}{e:ρ}{len:Nat}(hB:∀i:Nat,i<len->B (i:Int)=some (match f i with|some r=>.inr r|none=>.inl ((i+1:Nat):Int)))(hE:B (len:Int)=some (.inr e)) :
  ∀(k i n:Nat),i+k=len->k<n->bL B n (i:Int)=some (cm f e k i)
 | 0,i,n+1,h,_=>by
  rw[Wf] at h; subst h;simp only[bL,hE,cm]
 | k+1,i,n+1,h,hn=>by
  have:=hB i (by omega)
  simp only[bL,this,cm];cases hf:f i with
  | some r=>rfl
  | none=>exact dM hB hE k (i+1) n (by omega) (by omega)
def dw{ρ:Type}{f:Nat->YA ρ}{e:ρ}:∀(k i:Nat),((∀j,i<=j->j<i+k->f j=none)/\cm f e k i=e)\/∃j,i<=j/\j<i+k/\f j=some (cm f e k i)
 | 0,i=>.inl ⟨fun j h1 h2=>by omega,rfl⟩
 | k+1,i=>by
  cases hf:f i with
  | some r=>exact .inr ⟨i,by omega,by omega,by simp only[cm,hf]⟩
  | none =>
   have e1:cm f e (k+1) i=cm f e k (i+1):=by simp only[cm,hf]
   rw[e1];rcases dw (f:=f) (e:=e) k (i+1) with⟨h1,h2⟩|⟨j,h1,h2,h3⟩
   refine .inl ⟨fun j a b=>?_,h2⟩
   by_cases e:j=i
   rw[e]; exact hf
   exact h1 j (by omega) (by omega)
   exact .inr ⟨j,by omega,by omega,h3⟩
def mN{l:YB I2}{i:Nat}(h:i<l.length):l[((i:Nat):Int).toNat]? = some ((nx l i).1,(nx l i).2):=by
 rw[VH,U4 h];unfold nx;rw[WA h,U7,U4 h]; rfl
def gZ(m n:Nat):Int.tmod (m:Int) (n:Int)=((m%n:Nat):Int):=rfl
def BS{l:YB I2}{i:Nat}:nx l (i%l.length)=nx l i:=by unfold nx; rw[Nat.mod_mod]
def Tl{a b c:I2}(ha:Nr a)(hb:Nr b)(hc:Nr c):XN (XN ((XN (b.1-a.1))*(XN (c.1-b.1)))+XN ((XN (b.2-a.2))*(XN (c.2-b.2))))=di a b c:=by
 unfold Nr at ha hb hc;have m1:=iI (B:=2000000) (C:=2000000) (u:=b.1-a.1) (v:=c.1-b.1) (by decide) (by omega) (by omega) (by omega) (by omega)
 have m2:=iI (B:=2000000) (C:=2000000) (u:=b.2-a.2) (v:=c.2-b.2) (by decide) (by omega) (by omega) (by omega) (by omega)
 rw[av (x:=b.1-a.1) (by omega) (by omega),av (x:=c.1-b.1) (by omega) (by omega),av (x:=b.2-a.2) (by omega) (by omega),av (x:=c.2-b.2) (by omega) (by omega),
  av (x:=(b.1-a.1)*(c.1-b.1)) (by omega) (by omega),av (x:=(b.2-a.2)*(c.2-b.2)) (by omega) (by omega),av (by omega) (by omega)]
 rfl
end
section
open Go Go.Ab Go.Ab.W Go.Ab.B Jd
def mS(l:YB I2)(i:Nat):YA (Int⊕YC):=if Fa (nx l i) then some (.inl (i:Int)) else none
def kU(l:YB I2)(i:Nat):YA (Int⊕YC):=if nx l i=nx l (i+1) then some (.inl (i:Int)) else none
def mn(l:YB I2)(i:Nat):YA (Int⊕YC):=if ti (nx l (i+l.length-1)) (nx l i) (nx l (i+1))=0/\di (nx l (i+l.length-1)) (nx l i) (nx l (i+1))<0 then some (.inl (i:Int)) else none
def Dz(l:YB I2)(i j:Nat):Prop:=¬(j=0/\i=l.length-1)/\k5 (nx l j) (nx l (j+1)) (nx l i) (nx l (i+1))≠0
open Classical in
noncomputable def lP (l:YB I2) (i:Nat):YA (Int⊕YC):=if ∃j,j+1<i/\Dz l i j then some (.inl (i:Int)) else none
noncomputable def xO (l:YB I2):Int×Int :=
 if l.length<3\/40<l.length then(1,0) else
 match cm (mS l) (.inr ()) l.length 0 with
 | .inl v=>(2,v)
 | .inr _=>match cm (kU l) (.inr ()) l.length 0 with
  | .inl v=>(3,v)
  | .inr _=>match cm (mn l) (.inr ()) l.length 0 with
   | .inl v=>(4,v)
   | .inr _=>match cm (lP l) (.inr ()) l.length 0 with
    | .inl v=>(5,v)
    | .inr _=>(0,0)
section
variable{l:YB I2}(n:Nat)
def Jz(p q:I2):(decide (p.1=q.1)&&decide (p.2=q.2))=decide (p=q):=by
 rw[<-V5,decide_eq_decide]; exact⟨fun h=>VN h.1 h.2,fun h=>by subst h; exact⟨rfl,rfl⟩⟩
def H0(h64:∀i,ru (nx l i).1/\ru (nx l i).2)(hn:l.length<n)(hl:l.length<100):bL (A4 n l) n 0=some (cm (mS l) (.inr ()) l.length 0):=by
 refine dM (len:=l.length) (fun i hi=>?_) ?_ l.length 0 n (by omega) hn
 unfold A4 mS
 dsimp only
 rw[aH (by omega),aC hi,bf,mN hi,aj]
 dsimp only
 rw[uH n (h64 i).1 (h64 i).2,aj,aw (by omega)]
 by_cases h:Fa (nx l i)
 rw[aH (show Fa ((nx l i).1,(nx l i).2) from h),U5 h]
 rw[aF (show ¬Fa ((nx l i).1,(nx l i).2) from h),U3 h]
 unfold A4
 dsimp only
 rw[aF (by omega)]
def mC(i:Nat)(hi:i<l.length)(hl:l.length<100){β:Type}(K:Int×Int->YA β) :
  gd (decide ((l.length:Int)≠0)) (gd (cM (Int.tmod ((i+1:Nat):Int) (l.length:Int)) l.length) (ob (l[(Int.tmod ((i+1:Nat):Int) (l.length:Int)).toNat]?) K))=K ((nx l (i+1)).1,(nx l (i+1)).2):=by
 have hm:(i+1)%l.length<l.length:=VM _ (by omega)
 rw[Vc (show((l.length:Nat):Int)≠0 by omega),bf,gZ,aC hm,bf,mN hm,aj,BS]
def Js(hn:l.length<n)(hl:l.length<100):bL (AF n l) n 0=some (cm (kU l) (.inr ()) l.length 0):=by
 refine dM (len:=l.length) (fun i hi=>?_) ?_ l.length 0 n (by omega) hn
 unfold AF kU
 dsimp only
 rw[aH (by omega),aC hi,bf,mN hi,aj]
 dsimp only
 rw[aw (by omega),mC i hi hl]
 dsimp only
 rw[Jz]
 by_cases h:nx l i=nx l (i+1)
 rw[aH h,U5 h]; rfl
 rw[aF h,U3 h]; rfl
 unfold AF
 dsimp only
 rw[aF (by omega)]
def Iq(hnr:∀i,Nr (nx l i))(hn:l.length<n)(hl:l.length<100):bL (AV n l) n 0=some (cm (mn l) (.inr ()) l.length 0):=by
 refine dM (len:=l.length) (fun i hi=>?_) ?_ l.length 0 n (by omega) hn
 have hm:(i+l.length-1)%l.length<l.length:=VM _ (by omega)
 have e1:XN ((XN ((i:Int)+(l.length:Int)))-1)=((i+l.length-1:Nat):Int):=by
  rw[av (x:=(i:Int)+(l.length:Int)) (by omega) (by omega),av (by omega) (by omega)]; omega
 unfold AV mn
 dsimp only
 rw[aH (by omega),aC hi,bf,mN hi,aj]
 dsimp only
 rw[aw (by omega),mC i hi hl]
 dsimp only
 rw[e1,Vc (show((l.length:Nat):Int)≠0 by omega),bf,gZ,aj,aC hm,bf,mN hm,BS,aj]
 dsimp only
 rw[rI n (hnr _) (hnr _) (hnr _),aj,aj,aj,Tl (hnr _) (hnr _) (hnr _),iD,aj,<-V5]
 by_cases h:ti (nx l (i+l.length-1)) (nx l i) (nx l (i+1))=0/\di (nx l (i+l.length-1)) (nx l i) (nx l (i+1))<0
 rw[aH (show _/\_ from⟨qL.2 h.1,h.2⟩),U5 h]; rfl
 rw[aF (fun g=>h ⟨qL.1 g.1,g.2⟩),U3 h]; rfl
 unfold AV
 dsimp only
 rw[aF (by omega)]
end
end
section
open Go Go.Ab Go.Ab.W Go.Ab.B Jd
section
variable{l:YB I2}(n:Nat)
open Classical in
noncomputable def Ka {ρ:Type} (l:YB I2) (r:ρ) (i j:Nat):YA ρ:=if Dz l i j then some r else none
def Py{ρ:Type}{r e:ρ}(hre:r≠e){i:Nat}:(cm (Ka l r i) e (i-1) 0=r/\∃j,j+1<i/\Dz l i j)\/(cm (Ka l r i) e (i-1) 0=e/\¬∃j,j+1<i/\Dz l i j):=by
 classical
 rcases dw (f:=Ka l r i) (e:=e) (i-1) 0 with⟨h1,h2⟩|⟨j,_,h2,h3⟩
 refine .inr ⟨h2,?_⟩;rintro⟨j,hj,hh⟩;have:=h1 j (by omega) (by omega)
 unfold Ka at this;rw[U5 hh] at this;cases this
 unfold Ka at h3
 split at h3
 rename_i hh;exact .inl ⟨(U9 h3).symm,j,by omega,hh⟩
 cases h3
def JE(hnr:∀i,Nr (nx l i))(hst:∀i,nx l i≠nx l (i+1)){i:Nat}(hi:i<l.length)(hn:l.length<n)(h5:5<n)(hl:l.length<100) :
  bL (Bk n l (i:Int) (nx l i).1 (nx l i).2 (nx l (i+1)).1 (nx l (i+1)).2) n 0=some (cm (Ka l (.inr (.inl ())) i) (.inl ()) (i-1) 0):=by
 classical
 have hne:l≠[]:=by rintro rfl; cases hi
 have e0:XN ((i:Int)-1)=(i:Int)-1:=av (by omega) (by omega)
 refine dM (len:=i-1) (fun j hj=>?_) ?_ (i-1) 0 n (by omega) (by omega)
 ·have e1:XN ((l.length:Int)-1)=(l.length:Int)-1:=av (by omega) (by omega)
  unfold Bk Ka
  dsimp only
  rw[aH (by omega),aC (by omega),bf,mN (by omega),aj]
  dsimp only
  rw[aw (by omega),mC j (by omega) hl]
  try dsimp only
  rw[e0,aF (by omega),iD,aj,e1,<-V5]
  by_cases h:(j:Int)=0/\(i:Int)=(l.length:Int)-1
  rw[aH h,aj,U3 (fun g:Dz l i j=>g.1 ⟨by omega,by omega⟩)]
  rw[aF h,Kw n _ _ (hnr _) (hnr _) (hnr _) (hnr _) (hst _) (hst _) h5,tR,aj]
  by_cases g:k5 (nx l j) (nx l (j+1)) (nx l i) (nx l (i+1))=0
  rw[Vc g,V4,ib,aj,U3 (fun k:Dz l i j=>k.2 g)]
  rw[Vj g,VW,jm,aj,U5 (show Dz l i j from⟨fun k=>h ⟨by omega,by omega⟩,g⟩)]
 ·unfold Bk
  dsimp only
  rw[aH (by omega),aC (by omega),bf,mN (by omega),aj]
  dsimp only
  rw[aw (by omega),mC (i-1) (by omega) hl]
  try dsimp only
  rw[e0,aH (by omega),aj]
def Jx(hnr:∀i,Nr (nx l i))(hst:∀i,nx l i≠nx l (i+1))(hn:l.length<n)(h5:5<n)(hl:l.length<100):bL (BG n l) n 0=some (cm (lP l) (.inr ()) l.length 0):=by
 classical
 refine dM (len:=l.length) (fun i hi=>?_) ?_ l.length 0 n (by omega) hn
 unfold BG lP
 dsimp only
 rw[aH (by omega),aC hi,bf,mN hi,aj]
 dsimp only
 rw[aw (by omega),mC i hi hl]
 dsimp only
 rw[aj,JE n hnr hst hi hn h5 hl,aj];rcases Py (l:=l) (r:=(.inr (.inl ()):YC⊕YC⊕YC)) (e:=.inl ()) (by simp) (i:=i) with⟨h1,h2⟩|⟨h1,h2⟩
 rw[h1,U5 h2]; rfl
 rw[h1,U3 h2]; rfl
 unfold BG
 dsimp only
 rw[aF (by omega)]
def ly{f:Nat->YA (Int⊕YC)}(hf:∀j r,f j=some r->r≠.inr ()){k:Nat}(h:cm f (.inr ()) k 0=.inr ()):∀j,j<k->f j=none:=by
 rcases dw (f:=f) (e:=.inr ()) k 0 with⟨h1,_⟩|⟨j,_,_,h3⟩
 exact fun j hj=>h1 j (by omega) (by omega)
 rw[h] at h3; exact Vr rfl (hf j _ h3)
def CQ{P:I2->Prop}(hl:0<l.length)(h:∀i,i<l.length->P (nx l i))(i:Nat):P (nx l i):=by
 rw[<-BS]; exact h _ (VM _ hl)
def sN{i:Nat}:nx l (i%l.length+1)=nx l (i+1):=by unfold nx; rw[Nat.mod_add_mod]
def CM(hl:0<l.length)(h:cm (mS l) (.inr ()) l.length 0=.inr ()):∀i,Nr (nx l i):=by
 refine CQ hl fun i hi=>?_;have:=ly (fun j r hr=>by unfold mS at hr; split at hr<;>cases hr; simp) h i hi
 unfold mS at this
 split at this
 cases this
 rename_i g; exact vp.1 g
def Gy(hl:0<l.length)(h:cm (kU l) (.inr ()) l.length 0=.inr ()):∀i,nx l i≠nx l (i+1):=fun i=>by
 have:=ly (fun j r hr=>by unfold kU at hr; split at hr<;>cases hr; simp) h (i%l.length) (VM _ hl)
 unfold kU at this
 split at this
 cases this
 rename_i g;rw[BS,sN] at g;exact g
def EN(v:Int)(h:cm (mS l) (.inr ()) l.length 0=.inl v):0<=v:=by
 rcases dw (f:=mS l) (e:=.inr ()) l.length 0 with⟨_,h2⟩|⟨j,_,_,h3⟩
 rw[h] at h2; cases h2
 rw[h] at h3;unfold mS at h3
 split at h3
 cases h3; omega
 cases h3
def N4(h64:∀x∈l,ru x.1/\ru x.2)(hn:l.length<n)(h5:41<n):Rt n l=some (xO l):=by
 unfold Rt xO;rw[tq,aj,<-Bool.decide_or]
 by_cases h:l.length<3\/40<l.length
 rw[aH (by omega),U5 h]
 ·have h64':∀i,ru (nx l i).1/\ru (nx l i).2:=CQ (P:=fun x=>ru x.1/\ru x.2) (by omega) fun i hi=>by
   refine h64 _ ?_;unfold nx;rw[WA hi,U7,U4 hi];exact Vg hi
  rw[aF (by omega),U3 h,H0 n h64' hn (by omega),aj]
  cases h1:cm (mS l) (.inr ()) l.length 0 with
  | inl v =>
   have:=EN v h1
   dsimp only
   rw[aj,aH this]
  | inr _ =>
   have hnr:=CM (by omega) h1
   dsimp only
   rw[aj,aF (by omega),aj,Js n hn (by omega),aj]
   cases h2:cm (kU l) (.inr ()) l.length 0 with
   | inl v=>rfl
   | inr _ =>
    have hst:=Gy (by omega) h2
    dsimp only
    rw[aj]
    dsimp only
    rw[aj,Iq n hnr hn (by omega),aj]
    cases h3:cm (mn l) (.inr ()) l.length 0 with
    | inl v=>rfl
    | inr _ =>
     dsimp only
     rw[aj]
     dsimp only
     rw[aj,Jx n hnr hst hn (by omega) (by omega),aj]
     cases h4:cm (lP l) (.inr ()) l.length 0<;>rfl
def yo(l:YB I2):Prop:=(xO l).1<=0
open Classical in
def Pz(h64:∀x∈l,ru x.1/\ru x.2)(hn:l.length<n)(h5:41<n):Q2 n l=some (if yo l then 0 else 140):=by
 unfold Q2 yo;rw[N4 n h64 hn h5,aj];obtain⟨a,b⟩:=xO l
 dsimp only
 by_cases h:0<a
 rw[aH h,XP]
 rw[aF h,XQ]
end
end
section
open Go Go.Ab Go.Ab.W Go.Ab.B Jd
structure Ok(l:YB I2):Prop where
 len:l.length<=40
 nr:∀i,Nr (nx l i)
 vr:VR l
def iC{ρ:Type}{f:Nat->YA ρ}{e:ρ}{k i:Nat}(h:∀j,i<=j->j<i+k->f j=none):cm f e k i=e:=by
 rcases dw (f:=f) (e:=e) k i with⟨_,h2⟩|⟨j,h1,h2,h3⟩
 exact h2
 rw[h j h1 h2] at h3; cases h3
def Ks{i L:Nat}(hL:0<L):((i+1)%L+L-1)%L=i%L:=by
 have h:=Nat.div_add_mod (i+1) L;have:((i+1)%L+L-1)+L*((i+1)/L)=i+L:=by omega
 rw[<-Nat.add_mul_mod_self_left ((i+1)%L+L-1) L ((i+1)/L),this,Nat.add_mod_right]
def Ok.yo{l:YB I2}(h:Ok l):yo l:=by
 have hn:=h.vr.n3;have hl:=h.len;unfold Go.Proofs.Ytmndpgfbkicndaa.yo xO;rw[XP,iC (f:=mS l) fun j _ _=>by unfold mS; rw[U3 (vp.2 (h.nr j))]]
 dsimp only
 rw[iC (f:=kU l) fun j _ _=>by unfold kU; rw[U3 (h.vr.still j)]]
 dsimp only
 rw[iC (f:=mn l) fun j _ hj=>by
  unfold mn;have:=h.vr.spike (j+l.length-1);rw[show j+l.length-1+1=j+l.length by omega,show j+l.length-1+2=(j+1)+l.length by omega,jh l (Nat.add_mod_right j l.length),jh l (Nat.add_mod_right (j+1) l.length)] at this
  rw[U3 this]]
 dsimp only
 rw[iC (f:=lP l) fun j _ hj=>by
  unfold lP;rw[U3];rintro⟨t,ht,h1,h2⟩;exact h2 (zu.2 (h.vr.meet t j ht (by omega) fun e=>h1 ⟨e.1,by omega⟩))]
 exact Int.le_refl 0
def yo.ok{l:YB I2}(h:yo l):Ok l:=by
 unfold Go.Proofs.Ytmndpgfbkicndaa.yo xO at h
 split at h
 exact Vr (show(1:Int)<=0 from h) (by decide)
 ·rename_i hl;cases h1:cm (mS l) (.inr ()) l.length 0 with
  | inl v=>rw[h1] at h; exact Vr (show(2:Int)<=0 from h) (by decide)
  | inr _ =>
   rw[h1] at h
   dsimp only at h
   cases h2:cm (kU l) (.inr ()) l.length 0 with
   | inl v=>rw[h2] at h; exact Vr (show(3:Int)<=0 from h) (by decide)
   | inr _ =>
    rw[h2] at h
    dsimp only at h
    cases h3:cm (mn l) (.inr ()) l.length 0 with
    | inl v=>rw[h3] at h; exact Vr (show(4:Int)<=0 from h) (by decide)
    | inr _ =>
     rw[h3] at h
     dsimp only at h
     cases h4:cm (lP l) (.inr ()) l.length 0 with
     | inl v=>rw[h4] at h; exact Vr (show(5:Int)<=0 from h) (by decide)
     | inr _ =>
      have hL:0<l.length:=by omega
      refine⟨by omega,CM hL h1,by omega,Gy hL h2,fun i=>?_,fun j i hji hi hn=>?_⟩
      have:=ly (fun j r hr=>by unfold mn at hr; split at hr<;>cases hr; simp) h3 ((i+1)%l.length) (VM _ hL)
      unfold mn at this
      split at this
      cases this
      rename_i g;rw[jh l (Ks hL),BS,sN] at g;exact g
      have:=ly (fun j r hr=>by unfold lP at hr; split at hr<;>cases hr; simp) h4 i hi
      unfold lP at this
      split at this
      cases this
      rename_i g;refine zu.1 (U6 fun e=>g ⟨j,hji,fun k=>hn ⟨k.1,by omega⟩,e⟩)
def tO{l:YB I2}:yo l↔Ok l:=⟨yo.ok,Ok.yo⟩
def num(l:YB Nat)(i:Nat):Nat:=if l.length=0 then i%3 else l.getD (i%l.length) 0
section
variable(n:Nat){l:YB Nat}(hb:∀ x∈l, x < 256)(x5 x6:Int)(x7:Nat)(x8 x9:Bool)
include hb
def hh(l:YB Nat)(i:Nat):Int:=((1+num l (i+1)%5:Nat):Int)
end
end
section
open Go Go.Ab Go.Ab.W Go.Ab.B Jd
section
variable{l:YB Nat}
end
structure Dr(l:YB Nat)(x5 x6:Int)(x7:Nat):Prop where
 b:∀x∈l,x<256
 x : -32768<=x5/\x5<=32767
 y : -32768<=x6/\x6<=32767
 s:x7<256
end
section
open Go Go.Ab Go.Ab.W Go.Ab.B Jd
structure Bd(x2 x3:Nat)(x4 x5:Int):Prop where
 at_:x2<256
 to:x3<256
 x:ru x4
 y:ru x5
end
section
open Go Go.Ab Go.Ab.W Go.Ab.B Jd
def fq{σ τ ρ:Type}{B:τ->YA (τ⊕ρ)}{len:Nat}(st:Nat->σ->τ)(inv:Nat->σ->Prop)(Post:ρ->Prop)
  (hB:∀i s,i<len->inv i s->(∃s',B (st i s)=some (.inl (st (i+1) s'))/\inv (i+1) s')\/∃r,B (st i s)=some (.inr r)/\Post r)
  (hE:∀s,inv len s->∃r,B (st len s)=some (.inr r)/\Post r):∀(k i:Nat) (s:σ) (n:Nat),i+k=len->k<n->inv i s->∃r,bL B n (st i s)=some r/\Post r
 | 0,i,s,n+1,h,_,hi=>by
  rw[Wf] at h; subst h;obtain⟨r,h1,h2⟩:=hE s hi;exact⟨r,fG h1,h2⟩
 | k+1,i,s,n+1,h,hn,hi=>by
  rcases hB i s (by omega) hi with⟨s',h1,h2⟩|⟨r,h1,h2⟩
  rw[fy h1]; exact fq st inv Post hB hE k (i+1) s' n (by omega) (by omega) h2
  exact⟨r,fG h1,h2⟩
def Bb{f:Nat->Int}(h:∀i,-8000000000000<=f i/\f i<=8000000000000):∀n:Nat,-(8000000000000*(n:Int))<=aY n f/\aY n f<=8000000000000*(n:Int)
 | 0=>by simp[aY]
 | n+1=>by
  have h1:=Bb h n;have h2:=h n;simp only[aY];omega
section
variable{l:YB I2}(n:Nat)
def Q3{a b o:I2}(ha:Nr a)(hb:Nr b)(ho:Nr o) : -8000000000000<=(a.1-o.1)*(b.2-o.2)-(a.2-o.2)*(b.1-o.1)/\(a.1-o.1)*(b.2-o.2)-(a.2-o.2)*(b.1-o.1)<=8000000000000:=by
 unfold Nr at ha hb ho;have m1:=iI (B:=2000000) (C:=2000000) (u:=a.1-o.1) (v:=b.2-o.2) (by decide) (by omega) (by omega) (by omega) (by omega)
 have m2:=iI (B:=2000000) (C:=2000000) (u:=a.2-o.2) (v:=b.1-o.1) (by decide) (by omega) (by omega) (by omega) (by omega)
 omega
open Classical in
noncomputable def side (l:YB I2) (p:I2):Int:=if ∃i,i<l.length/\cD (nx l i) (nx l (i+1)) p then 1 else if cJ l p=0 then 0 else 2
def Ko(l:YB I2)(p:I2):∀i:Nat,-(i:Int)<=aY i (fun i=>wi (nx l i) (nx l (i+1)) p)/\aY i (fun i=>wi (nx l i) (nx l (i+1)) p)<=(i:Int)
 | 0=>by simp[aY]
 | i+1=>by
  have h1:=Ko l p i;have h2:=Jw (nx l i) (nx l (i+1)) p;simp only[aY];omega
end
end
end Go.Proofs.Ytmndpgfbkicndaa
end
section
namespace Go.Proofs.Ytmndpgfbkicndaa
open Go Go.Ab Go.Ab.W Go.Ab.B Jd
def Nw(p:I2):Prop:=-4000000<=p.1/\p.1<=4000000/\-4000000<=p.2/\p.2<=4000000
def Sb{a b c:I2}(ha:Nw a)(hb:Nw b)(hc:Nw c) :
  XN (XN ((XN (b.1-a.1))*(XN (c.2-a.2)))-XN ((XN (b.2-a.2))*(XN (c.1-a.1))))=ti a b c:=by
 unfold Nw at ha hb hc;have m1:=iI (B:=8000000) (C:=8000000) (u:=b.1-a.1) (v:=c.2-a.2) (by decide) (by omega) (by omega) (by omega) (by omega)
 have m2:=iI (B:=8000000) (C:=8000000) (u:=b.2-a.2) (v:=c.1-a.1) (by decide) (by omega) (by omega) (by omega) (by omega)
 rw[av (x:=b.1-a.1) (by omega) (by omega),av (x:=c.2-a.2) (by omega) (by omega),av (x:=b.2-a.2) (by omega) (by omega),av (x:=c.1-a.1) (by omega) (by omega)]
 unfold ti;generalize(b.1-a.1)*(c.2-a.2)=u at *;generalize(b.2-a.2)*(c.1-a.1)=v at *;rw[av (x:=u) (by omega) (by omega),av (x:=v) (by omega) (by omega),av (by omega) (by omega)]
section
variable{l:YB I2}(n:Nat)
def Ih{p:I2}(hnr:∀i,Nw (nx l i))(hp:Nw p)(hL:l.length<100)(hn:l.length<n):Nq n l p.1 p.2=some (side l p):=by
 have L:∃r,bL (vm n l p.2 p.1) n ((0:Int),((0:Nat):Int))=some r/\match r with
   | .inl _=>∃i,i<l.length/\cD (nx l i) (nx l (i+1)) p
   | .inr w=>(∀i,i<l.length->¬cD (nx l i) (nx l (i+1)) p)/\w=cJ l p:=by
  refine fq (len:=l.length) (fun i (s:Int)=>(s,(i:Int))) (fun i s=>(∀j,j<i->¬cD (nx l j) (nx l (j+1)) p)/\s=aY i fun i=>wi (nx l i) (nx l (i+1)) p) _ (fun i s hi hs=>?_) (fun s hs=>?_) l.length 0 0 n (by omega) hn ⟨fun j hj=>Vr hj (Nat.not_lt_zero _),rfl⟩
  ·have hw:=Ko l p i;have hwi:=Jw (nx l i) (nx l (i+1)) p;have hbase:vm n l p.2 p.1 (s,(i:Int))=if cD (nx l i) (nx l (i+1)) p then some (.inr (.inl ())) else some (.inl (s+wi (nx l i) (nx l (i+1)) p,((i+1:Nat):Int))):=by
    unfold vm
    try dsimp only
    rw[aH (by omega),aC hi,bf,mN hi,aj]
    try dsimp only
    rw[aw (by omega),mC i hi (by omega)]
    try dsimp only
    rw[aj,aj,Sb (hnr i) (hnr (i+1)) hp];have hB:(decide (ti (nx l i) (nx l (i+1)) p=0) &&(decide (mi (nx l i).1 (nx l (i+1)).1<=p.1) &&(decide (p.1<=ma (nx l i).1 (nx l (i+1)).1) &&(decide (mi (nx l i).2 (nx l (i+1)).2<=p.2)&&decide (p.2<=ma (nx l i).2 (nx l (i+1)).2)))))=decide (cD (nx l i) (nx l (i+1)) p):=by
     rw[kh,kh,jH,jH,<-V5,<-V5,<-V5,<-V5,decide_eq_decide];exact Iff.rfl
    rw[iD,iD,iD,iD,hB,aj]
    by_cases hb:cD (nx l i) (nx l (i+1)) p
    rw[aH hb,aj,U5 hb]
    rw[aF hb,U3 hb,iD,iD,aj];unfold wi
    by_cases c1:(nx l i).2<=p.2/\p.2<(nx l (i+1)).2/\0<ti (nx l i) (nx l (i+1)) p
    rw[U5 c1,Vc c1.1,Vc c1.2.1,Vc c1.2.2,WH,WH,jm,aj,av (by rw[hs.2]; omega) (by rw[hs.2]; omega)]
    have e1:(decide ((nx l i).2<=p.2) &&(decide (p.2<(nx l (i+1)).2)&&decide (0<ti (nx l i) (nx l (i+1)) p)))=false:=by
     rw[<-V5,<-V5]; exact Vj fun g=>c1 ⟨g.1,g.2.1,g.2.2⟩
    rw[U3 c1,e1,ib,iD,iD,aj]
    by_cases c2:(nx l (i+1)).2<=p.2/\p.2<(nx l i).2/\ti (nx l i) (nx l (i+1)) p<0
    rw[U5 c2,Vc c2.1,Vc c2.2.1,Vc c2.2.2,WH,WH,jm,aj,av (by rw[hs.2]; omega) (by rw[hs.2]; omega)]
    rfl
    have e2:(decide (p.2<(nx l i).2) &&(decide ((nx l (i+1)).2<=p.2)&&decide (ti (nx l i) (nx l (i+1)) p<0)))=false:=by
     rw[<-V5,<-V5]; exact Vj fun g=>c2 ⟨g.2.1,g.1,g.2.2⟩
    rw[U3 c2,e2,ib,aj,Int.add_zero]
   by_cases hb:cD (nx l i) (nx l (i+1)) p
   exact .inr ⟨.inl (),by rw[hbase,U5 hb],⟨i,hi,hb⟩⟩
   refine .inl ⟨s+wi (nx l i) (nx l (i+1)) p,by rw[hbase,U3 hb],fun j hj=>?_,by rw[hs.2]; rfl⟩
   by_cases e:j=i
   rw[e]; exact hb
   exact hs.1 j (by omega)
  ·refine⟨.inr s,?_,hs.1,hs.2⟩;unfold vm
   try dsimp only
   rw[aF (by omega)]
 obtain⟨r,h1,h2⟩:=L;have h1':bL (vm n l p.2 p.1) n (0,0)=some r:=h1;unfold Nq;rw[h1',aj];unfold side;cases r with
 | inl s =>
  dsimp only at h2
  rw[U5 h2]
 | inr w =>
  obtain⟨g1,g2⟩:=h2;rw[U3 (fun⟨i,a,b⟩=>g1 i a b)]
  try dsimp only
  rw[g2]
  by_cases e:cJ l p=0
  rw[aH e,U5 e]
  rw[aF e,U3 e]
end
def Df{α β ρ:Type}{B:(YB β×Int)->YA ((YB β×Int)⊕ρ)}{l:YB α}(f:α->β)(out:YB β->ρ)
  (hB:∀i x,l[i]? = some x->i<l.length->B ((l.take i).map f,(i:Int))=some (.inl ((l.take i).map f++[f x],((i+1:Nat):Int))))
  (hE:B (l.map f,(l.length:Int))=some (.inr (out (l.map f)))) {n:Nat} (hn:l.length<n):bL B n ([],0)=some (out (l.map f)):=by
 obtain⟨r,h1,h2⟩:=fq (B:=B) (len:=l.length) (fun i (s:YB β)=>(s,(i:Int))) (fun i s=>s=(l.take i).map f) (fun r=>r=out (l.map f)) (fun i s hi hs=>by
  subst hs;have hx:=U4 hi;refine .inl ⟨_,hB i _ hx hi,?_⟩;rw[Xl,hx,W6]; rfl) (fun s hs=>by
  subst hs;rw[List.take_length];exact⟨_,hE,rfl⟩) l.length 0 [] n (by omega) hn rfl
 subst h2;exact h1
def fb(pts:YB I2)(i:Int):I2:=pts.getD i.toNat (0,0)
def dP(pts:YB I2)(l:YB Int)(t:Int):YB I2:=l.map fun i=>(t*(fb pts i).1,t*(fb pts i).2)
def Ix(pts:YB I2)(l:YB Int):Prop:=∀i∈l,0<=i/\i<pts.length
def iW(pts:YB I2):Prop:=∀q∈pts,Nr q
def pP{pts:YB I2}{i:Int}(h:0<=i/\i<pts.length):pts[i.toNat]? = some (fb pts i):=by
 unfold fb;rw[U7,U4 (by omega)]; rfl
def mO{pts:YB I2}(hb:iW pts){i:Int}(h:0<=i/\i<pts.length):Nr (fb pts i):=hb _ (VD (pP h))
def fW(pts:YB I2)(l:YB Int)(t:Int):(dP pts l t).length=l.length:=Vf _
def bo{k:Nat}(h:k<=1000000):lim k=true:=Nat.ble_eq_true_of_le (by omega)
section
variable{pts:YB I2}{F:XB}{l:YB Int}{t:Int}(n:Nat)
def yT(hb:iW pts)(hx:Ix pts l)(ht:t=1\/t=2)(hl:l.length<=1000)(hn:l.length<n):KN n pts F l t=some (dP pts l t):=by
 have h:=Df (B:=B5 n l pts t) (l:=l) (fun i=>(t*(fb pts i).1,t*(fb pts i).2)) (fun s=>s) (fun i x hi hil=>by
  have hxi:=hx x (VD hi);have hnr:=mO hb hxi;unfold Nr at hnr;unfold B5
  try dsimp only
  rw[aH (by omega),aC hil,bf,VH,hi,aj,show cM x pts.length=true from Vc ⟨hxi.1,by omega⟩,bf,pP hxi,aj]
  try dsimp only
  rw[bf,av (by rcases ht with rfl|rfl<;>omega) (by rcases ht with rfl|rfl<;>omega),av (by rcases ht with rfl|rfl<;>omega) (by rcases ht with rfl|rfl<;>omega),bo (by simp; omega),bf,aw (by omega)]) (by
  unfold B5
  try dsimp only
  rw[aF (by omega)]) hn
 unfold KN;rw[h,aj]; rfl
def PJ{r:YB I2}(hnr:∀i,Nr (nx r i))(hL:r.length<100)(hn:r.length<n):Qu n r=some (fw r):=by
 have hb:∀i,-8000000000000<=(nx r i).1*(nx r (i+1)).2-(nx r i).2*(nx r (i+1)).1/\(nx r i).1*(nx r (i+1)).2-(nx r i).2*(nx r (i+1)).1<=8000000000000:=fun i=>by
  have:=Q3 (hnr i) (hnr (i+1)) (show Nr (0,0) by unfold Nr; omega)
  simpa using this
 have L:∃z,bL (xS n r) n ((0:Int),((0:Nat):Int))=some z/\z=fw r:=by
  refine fq (len:=r.length) (fun i (s:Int)=>(s,(i:Int))) (fun i s=>s=aY i fun i=>(nx r i).1*(nx r (i+1)).2-(nx r i).2*(nx r (i+1)).1) _ (fun i s hi hs=>?_) (fun s hs=>?_) r.length 0 0 n (by omega) hn rfl
  ·have hbi:=Bb hb i;refine .inl ⟨s+((nx r i).1*(nx r (i+1)).2-(nx r i).2*(nx r (i+1)).1),?_,by rw[hs]; rfl⟩
   unfold xS
   try dsimp only
   rw[aH (by omega),aC hi,bf,mN hi,aj]
   try dsimp only
   rw[aw (by omega),mC i hi (by omega)]
   try dsimp only
   rw[aj];have h1:=hnr i;have h2:=hnr (i+1);have h3:=hb i;unfold Nr at h1 h2;have m1:=iI (B:=1000000) (C:=1000000) (u:=(nx r i).1) (v:=(nx r (i+1)).2) (by decide) (by omega) (by omega) (by omega) (by omega)
   have m2:=iI (B:=1000000) (C:=1000000) (u:=(nx r i).2) (v:=(nx r (i+1)).1) (by decide) (by omega) (by omega) (by omega) (by omega)
   generalize(nx r i).1*(nx r (i+1)).2=u at *;generalize(nx r i).2*(nx r (i+1)).1=v at *;rw[av (x:=u) (by omega) (by omega),av (x:=v) (by omega) (by omega),av (x:=u-v) (by omega) (by omega),av (by rw[hs]; omega) (by rw[hs]; omega)]
  ·refine⟨s,?_,hs⟩;unfold xS
   try dsimp only
   rw[aF (by omega)]
 obtain⟨z,h1,h2⟩:=L;have h1':bL (xS n r) n (0,0)=some z:=h1;unfold Qu;rw[h1',aj,h2]
end
def Pf(n:Nat)(p:I2):QA n p.1 p.2=some (decide (Fa p)):=by
 unfold QA Fa;rw[jH,kh,tq];refine Vs some ?_;have:(min p.1 p.2 < -1000000\/1000000<max p.1 p.2)↔(p.1 < -1000000\/1000000<p.1\/p.2 < -1000000\/1000000<p.2):=by omega
 simp only[<-this,Bool.decide_or]
def FE{α β:Type}[DecidableEq α](xs:YB (α×β))(k k':α)(v:β):bR (fX xs k v) k'=(if k'=k then some v else bR xs k')/\(fX xs k v).length=(if bR xs k=none then xs.length+1 else xs.length):=by
 have key:∀(xs:YB (α×β)) (i:Nat),(cV k xs i=none->∀j,(cV k' (xs++[(k,v)]) j).map (·.2)=if k'=k then some v else(cV k' xs j).map (·.2)) /\
   (∀p,cV k xs i=some p->i<=p.1/\∀j,(cV k' (xs.set (p.1-i) (k,v)) j).map (·.2)=if k'=k then some v else(cV k' xs j).map (·.2)):=by
  intro xs
  induction xs with
  | nil =>
   intro i;refine⟨fun _ j=>?_,fun p h=>by simp[cV] at h⟩
   simp only[Wc,cV]
   by_cases h:k'=k<;>simp[h]
  | cons e xs ih =>
   intro i
   by_cases he:k=e.1
   refine⟨fun h=>by simp[cV,he] at h,fun p h=>?_⟩
   have hp:p=(i,e.2):=by simp[cV,he] at h; exact h.symm
   subst hp;refine⟨U8 _,fun j=>?_⟩;simp only[Xz,List.set_cons_zero,cV]
   by_cases h:k'=k
   simp[h]
   have:k'≠e.1:=fun c=>h (c.trans he.symm);simp[h,this]
   refine⟨fun h j=>?_,fun p h=>?_⟩
   have h':cV k xs (i+1)=none:=by simpa [cV,he] using h
   simp only[WY,cV]
   by_cases h2:k'=e.1
   have:k'≠k:=fun c=>he (c.symm.trans h2);simp[h2,Ne.symm he]
   simp only[U3 h2];exact(ih (i+1)).1 h' (j+1)
   have h':cV k xs (i+1)=some p:=by simpa [cV,he] using h
   obtain⟨g1,g2⟩:=(ih (i+1)).2 p h';refine⟨by omega,fun j=>?_⟩
   rw[show p.1-i=(p.1-(i+1))+1 by omega,List.set_cons_succ]
   simp only[cV]
   by_cases h2:k'=e.1
   have:k'≠k:=fun c=>he (c.symm.trans h2);simp[h2,Ne.symm he]
   simp only[U3 h2];exact g2 (j+1)
 unfold bR fX;cases h:cV k xs 0 with
 | none=>exact⟨(key xs 0).1 h 0,by simp⟩
 | some p=>exact⟨((key xs 0).2 p h).2 0,by simp⟩
def dJ{α β:Type}[DecidableEq α](xs:YB (α×β))(k k':α)(v:β):bR (fX xs k v) k'=if k'=k then some v else bR xs k':=(FE xs k k' v).1
def pZ(l:YB I2)(i:Nat):YA (Int⊕YC):=if nx l i∈l.take i then some (.inl (i:Int)) else none
section
variable{l:YB I2}(n:Nat)
def B6(hn:l.length<n)(hl:l.length<1000):bL (BA n l) n 0=some (cm (mS l) (.inr ()) l.length 0):=by
 refine dM (len:=l.length) (fun i hi=>?_) ?_ l.length 0 n (by omega) hn
 unfold BA mS
 dsimp only
 rw[aH (by omega),aC hi,bf,mN hi,aj]
 dsimp only
 rw[Pf,aj,aw (by omega)]
 by_cases h:Fa (nx l i)
 rw[aH h,U5 h]
 rw[aF h,U3 h]
 unfold BA
 dsimp only
 rw[aF (by omega)]
def R4(l:YB I2)(m:YB (I2×Bool)):Prop:=∀p,(bR m p).getD false=decide (p∈l)
def vF(m:YB (I2×Bool))(k p:I2):(bR (fX m k true) p)=if p=k then some true else bR m p:=dJ m k p true
def AP(hn:l.length<n)(hl:l.length<1000):bL (s5 n l) n ([],0)=some (cm (pZ l) (.inr ()) l.length 0):=by
 have key:∀(k i:Nat) (m:YB (I2×Bool)) (f:Nat),i+k=l.length->k<f->R4 (l.take i) m->bL (s5 n l) f (m,(i:Int))=some (cm (pZ l) (.inr ()) k i):=by
  intro k
  induction k with
  | zero =>
   intro i m f h hf hm;obtain⟨f,rfl⟩:∃g,f=g+1:=⟨f-1,by omega⟩
   have:s5 n l (m,(i:Int))=some (.inr (.inr ())):=by
    unfold s5
    dsimp only
    rw[aF (by omega)]
   simp only[bL,this,cm]
  | succ k ih =>
   intro i m f h hf hm;obtain⟨f,rfl⟩:∃g,f=g+1:=⟨f-1,by omega⟩
   have hi:i<l.length:=by omega
   have hB:s5 n l (m,(i:Int))=if nx l i∈l.take i then some (.inr (.inl (i:Int))) else some (.inl (fX m (nx l i) true,((i+1:Nat):Int))):=by
    unfold s5
    dsimp only
    rw[aH (by omega),aC hi,bf,mN hi,aj]
    dsimp only
    rw[aj,aw (by omega)]
    have e:=hm (nx l i);rw[show((nx l i).1,(nx l i).2)=nx l i from rfl,e]
    by_cases g:nx l i∈l.take i
    rw[aH g,U5 g]
    rw[aF g,U3 g]
   by_cases g:nx l i∈l.take i
   rw[U5 g] at hB;simp only[bL,hB,cm,pZ,U5 g]
   rw[U3 g] at hB;simp only[bL,hB,cm,pZ,U3 g];refine ih (i+1) _ f (by omega) (by omega) fun p=>?_
   have e:l.take (i+1)=l.take i++[nx l i]:=by
    rw[Xl,U4 hi]
    congr 1
    unfold nx;rw[WA hi,U7,U4 hi]; rfl
   rw[vF,e]
   by_cases hp:p=nx l i
   rw[U5 hp,hp]; simp
   rw[U3 hp,hm p,decide_eq_decide]; simp[hp]
 exact key l.length 0 [] n (by omega) hn (by intro p; simp[bR,cV])
end
def KG(n:Nat)(o:YB Int)(h:XE)(hl:h.length<=1000)(hn:1000<n):bL (q9 n [[o],h]) n (0,0)=some (((h.length+1:Nat):Int)):=by
 obtain⟨m,rfl⟩:∃m,n=m+3:=⟨n-3,by omega⟩
 have e0:q9 (m+3) [[o],h] (0,0)=some (.inl (1,1)):=by
  unfold q9
  try dsimp only
  rw[aH (by simp),show cM 0 ([[o],h]:YB (XE)).length=true from rfl,bf]
  show ob (some [o]) _=_
  rw[aj,List.length_singleton]
  rfl
 have e1:q9 (m+3) [[o],h] (1,1)=some (.inl (((h.length+1:Nat):Int),2)):=by
  unfold q9
  try dsimp only
  rw[aH (by simp),show cM 1 ([[o],h]:YB (XE)).length=true from rfl,bf]
  show ob (some h) _=_
  rw[aj,av (by omega) (by omega),aF (by omega),show XN (1+1)=2 from rfl,show((1:Int)+(h.length:Int))=((h.length+1:Nat):Int) by omega]
 have e2:q9 (m+3) [[o],h] (((h.length+1:Nat):Int),2)=some (.inr ((h.length+1:Nat):Int)):=by
  unfold q9
  try dsimp only
  rw[aF (by simp)]
 simp only[bL,e0,e1,e2]
def JD(n:Nat)(o:YB Int)(h:XE)(hl:h.length<=1000)(hn:1000<n):bL (rr n [[o],h]) n ([],0)=some (o::h):=by
 obtain⟨m,rfl⟩:∃m,n=m+3:=⟨n-3,by omega⟩
 have e0:rr (m+3) [[o],h] ([],0)=some (.inl ([o],1)):=by
  unfold rr
  try dsimp only
  rw[aH (by simp),show cM 0 ([[o],h]:YB (XE)).length=true from rfl,bf]
  show ob (some [o]) _=_
  rw[aj,Wc,bo (by simp),bf]
  rfl
 have e1:rr (m+3) [[o],h] ([o],1)=some (.inl (o::h,2)):=by
  unfold rr
  try dsimp only
  rw[aH (by simp),show cM 1 ([[o],h]:YB (XE)).length=true from rfl,bf]
  show ob (some h) _=_
  rw[aj,List.singleton_append,bo (by simp; omega),bf]
  rfl
 have e2:rr (m+3) [[o],h] (o::h,2)=some (.inr (o::h)):=by
  unfold rr
  try dsimp only
  rw[aF (by simp)]
 simp only[bL,e0,e1,e2]
def y8(n:Nat)(o:YB Int)(h:XE)(hl:h.length<=1000)(hn:1000<n):C6 n o h=some (o::h):=by
 unfold C6 SX;rw[KG n o h hl hn,aj,aF (by omega)]
 have ew:XN (((h.length+1:Nat):Int)-(XN (0-0)))=((h.length+1:Nat):Int):=by
  rw[show XN (0-0)=0 from rfl,av (by omega) (by omega)]; omega
 rw[ew,aH (by omega),fT (by omega),VH,bo (by omega),bf]
 have eb:okB 0 0 (h.length+1)=true:=Vc ⟨Int.le_refl 0,Int.le_refl 0,by omega⟩
 rw[eb,bf,fT (by omega),aj,aj,show XO=0 from rfl,List.take_zero,JD n o h hl hn,aj,aj]
def bM{α:Type}{l:YB α}{i:Nat}{x:α}(h:l[i]? = some x):l[((i:Nat):Int).toNat]? = some x:=by rw[VH]; exact h
def bad{α:Type}(p:α->Bool)(l:YB α)(i:Nat):YA (YC⊕YC):=match l[i]? with|some x=>if p x then none else some (.inl ())|none=>none
def A8{α:Type}(p:α->Bool)(l:YB α):cm (bad p l) (.inr ()) l.length 0=if l.all p then .inr () else .inl ():=by
 rcases dw (f:=bad p l) (e:=.inr ()) l.length 0 with⟨h1,h2⟩|⟨j,_,h2,h3⟩
 rw[h2,U5];rw[Vo];intro x hx;obtain⟨j,hj,e⟩:=Vz.1 hx;have:=h1 j (by omega) (by omega)
 unfold bad at this;rw[U4 hj,e] at this;refine U6 fun hc=>?_
 dsimp only at this
 rw[U3 hc] at this; cases this
 unfold bad at h3;rw[U4 (by omega:j<l.length)] at h3
 dsimp only at h3
 by_cases g:p l[j]=true
 rw[U5 g] at h3; cases h3
 rw[U3 g] at h3;rw[U3 (fun h=>g (Vo.1 h _ (Vg _)))];exact(U9 h3).symm
def O1(n:Nat){l:YB Int}(h0:0<l.length)(hl:l.length<1000)(hn:l.length<n):∃m,Qp n l=some m/\m∈l/\∀x∈l,m<=x:=by
 have h00:l[0]? = some l[0]:=U4 h0;obtain⟨r,h1,h2⟩:=fq (B:=Bf n l) (len:=l.length) (fun i (s:Int)=>(s,(i:Int))) (fun i s=>s∈l/\∀x∈l.take i,s<=x) (fun r=>r∈l/\∀x∈l,r<=x) (fun i s hi hs=>by
  have hx:=U4 hi;refine .inl ⟨mi s l[i],?_,?_,fun x hxm=>?_⟩
  ·unfold Bf
   try dsimp only
   rw[aH (by omega),aC hi,bf,bM hx,aj,aw (by omega)]
  rw[jH];rcases Int.le_total s l[i] with h|h
  rw[Int.min_eq_left h]; exact hs.1
  rw[Int.min_eq_right h]; exact Vg _
  rw[Xl,hx,Vq] at hxm;rw[jH];rcases hxm with h|h
  have:=hs.2 x h; omega
  simp at h; omega) (fun s hs=>by
  rw[List.take_length] at hs;refine⟨s,?_,hs⟩;unfold Bf
  try dsimp only
  rw[aF (by omega)]) (l.length-1) 1 l[0] n (by omega) (by omega) ⟨Vg _,fun x hx=>by
   rw[Xl,h00] at hx;simp at hx; omega⟩
 refine⟨r,?_,h2⟩;unfold Qp;rw[aF (by omega),show cM 0 l.length=true from Vc ⟨by omega,by omega⟩,bf,show XO=0 from rfl,h00,aj,show((l[0],1):Int×Int)=(l[0],((1:Nat):Int)) from rfl,h1,aj]
def PK(n:Nat){l:YB Int}(h0:0<l.length)(hl:l.length<1000)(hn:l.length<n):∃m,Fo n l=some m/\m∈l/\∀x∈l,x<=m:=by
 have h00:l[0]? = some l[0]:=U4 h0;obtain⟨r,h1,h2⟩:=fq (B:=Au n l) (len:=l.length) (fun i (s:Int)=>(s,(i:Int))) (fun i s=>s∈l/\∀x∈l.take i,x<=s) (fun r=>r∈l/\∀x∈l,x<=r) (fun i s hi hs=>by
  have hx:=U4 hi;refine .inl ⟨ma s l[i],?_,?_,fun x hxm=>?_⟩
  ·unfold Au
   try dsimp only
   rw[aH (by omega),aC hi,bf,bM hx,aj,aw (by omega)]
  rw[kh];rcases Int.le_total s l[i] with h|h
  rw[Int.max_eq_right h]; exact Vg _
  rw[Int.max_eq_left h]; exact hs.1
  rw[Xl,hx,Vq] at hxm;rw[kh];rcases hxm with h|h
  have:=hs.2 x h; omega
  simp at h; omega) (fun s hs=>by
  rw[List.take_length] at hs;refine⟨s,?_,hs⟩;unfold Au
  try dsimp only
  rw[aF (by omega)]) (l.length-1) 1 l[0] n (by omega) (by omega) ⟨Vg _,fun x hx=>by
   rw[Xl,h00] at hx;simp at hx; omega⟩
 refine⟨r,?_,h2⟩;unfold Fo;rw[aF (by omega),show cM 0 l.length=true from Vc ⟨by omega,by omega⟩,bf,show XO=0 from rfl,h00,aj,show((l[0],1):Int×Int)=(l[0],((1:Nat):Int)) from rfl,h1,aj]
def wD(m:Nat)(l:YB Int):Bool:=decide (3<=l.length/\l.length<=40/\∀i∈l,0<=i/\i<m)
section
variable{pts:YB I2}(n:Nat)
def Kv{rs:XE}(hr:rs.length<1000)(hn:1000<n):bL (Ci n rs pts) n 0=some (if rs.all (wD pts.length) then .inr () else .inl ()):=by
 rw[<-A8];refine dM (len:=rs.length) (fun i hi=>?_) ?_ rs.length 0 n (by omega) (by omega)
 ·have hx:=U4 hi;generalize rs[i]=l at hx;unfold Ci bad;rw[hx]
  try dsimp only
  rw[aH (by omega),aC hi,bf,bM hx,aj,aw (by omega)]
  have key:(br (decide ((l.length:Int)<3)) (some true) (br (decide (40<(l.length:Int))) (some true) (ob (Qp n l) fun r0=>br (decide (r0<0)) (some true) (ob (Fo n l) fun r1=>some (decide ((pts.length:Int)<=r1))))))=some (!wD pts.length l):=by
   by_cases h0:(l.length:Int)<3
   rw[aH h0];unfold wD;rw[Vj (by omega)]; rfl
   rw[aF h0]
   by_cases h1:40<(l.length:Int)
   rw[aH h1];unfold wD;rw[Vj (by omega)]; rfl
   rw[aF h1];obtain⟨a,e0,e2,e1⟩:=O1 n (l:=l) (by omega) (by omega) (by omega)
   obtain⟨b,f0,f1,f2⟩:=PK n (l:=l) (by omega) (by omega) (by omega)
   rw[e0,aj]
   by_cases h2:a<0
   rw[aH h2];unfold wD;rw[Vj (fun h=>by have:=h.2.2 a e2; omega)]; rfl
   rw[aF h2,f0,aj];unfold wD;rw[<-decide_not];refine Vs some (decide_eq_decide.2 ⟨fun h g=>by have:=g.2.2 b f1; omega,fun h=>?_⟩)
   refine U6 fun hc=>h ⟨by omega,by omega,fun x hx=>?_⟩
   have:=e1 x hx;have:=f2 x hx;omega
  rw[key,aj];cases wD pts.length l
  rw[show(!false)=true from rfl,jm]; rfl
  rw[show(!true)=false from rfl,ib]; rfl
 ·unfold Ci
  try dsimp only
  rw[aF (by omega)]
end
abbrev Fc:=YB Int×XE
def jb(p:Fc->Bool)(F:YB Fc)(i:Nat):YA (Int⊕YC):=match F[i]? with|some x=>if p x then none else some (.inl (i:Int))|none=>none
def okF(m:Nat)(f:Fc):Bool:=decide (f.2.length<=8) &&(f.1::f.2).all (wD m)
noncomputable instance (l:YB I2):Decidable (yo l):=by unfold yo; infer_instance
noncomputable def QF (pts:YB I2) (f:Fc):Bool:=(f.1::f.2).all fun r=>decide (yo (dP pts r 1))
section
variable{pts:YB I2}{F:YB Fc}(n:Nat)
def Cc(hF:F.length<1000)(hn:1000<n):bL (BP n F pts) n 0=some (cm (jb (okF pts.length) F) (.inr ()) F.length 0):=by
 refine dM (len:=F.length) (fun i hi=>?_) ?_ F.length 0 n (by omega) (by omega)
 ·have hx:=U4 hi;generalize F[i]=f at hx;obtain⟨o,h⟩:=f;unfold BP jb okF;rw[hx]
  try dsimp only
  rw[aH (by omega),aC hi,bf,bM hx,aj]
  try dsimp only
  by_cases g:8<(h.length:Int)
  rw[aH g,aj,jm,Vj (by omega)]; rfl
  rw[aF g,Vc (by omega),y8 n _ _ (by omega) hn,aj,Kv n (by simp; omega) hn,aj,WH,aw (by omega)]
  cases(o::h).all (wD pts.length)<;>rfl
 ·unfold BP
  try dsimp only
  rw[aF (by omega)]
def SY(pts:YB I2)(F:YB Fc):Prop:=∀f∈F,okF pts.length f=true
def ou{m:Nat}{pts:YB I2}(e:m=pts.length){r:YB Int}(h:wD m r=true):Ix pts r/\3<=r.length/\r.length<=40:=by
 have:=of_decide_eq_true h;subst e;exact⟨this.2.2,this.1,this.2.1⟩
def IM(hb:iW pts){r:YB Int}(hx:Ix pts r):∀q∈dP pts r 1,Nr q:=by
 intro q hq;obtain⟨i,hi,rfl⟩:=Vi.1 hq;have:=mO hb (hx i hi)
 simpa using this
def Kn(hb:iW pts){rs:XE}(hr:rs.length<1000)(ho:∀r∈rs,wD pts.length r=true)(hn:1000<n):bL (B9 n rs pts F) n 0=some (if rs.all (fun r=>decide (yo (dP pts r 1))) then .inr () else .inl ()):=by
 rw[<-A8];refine dM (len:=rs.length) (fun i hi=>?_) ?_ rs.length 0 n (by omega) (by omega)
 ·have hx:=U4 hi;generalize rs[i]=r at hx;obtain⟨hix,h3,h4⟩:=ou rfl (ho r (VD hx));unfold B9 bad;rw[hx]
  try dsimp only
  rw[aH (by omega),aC hi,bf,bM hx,aj,yT n hb hix (.inl rfl) (by omega) (by omega),aj,Pz n (fun x hx=>by
   have:=IM hb hix x hx;unfold Nr at this; unfold ru; omega) (by rw[fW]; omega) (by omega),aj,aw (by omega)]
  by_cases g:yo (dP pts r 1)
  simp only[U5 g,decide_true,V4,aj,ib,if_true,Vc g]
  simp only[U3 g,Vj g]; rfl
 ·unfold B9
  try dsimp only
  rw[aF (by omega)]
def rf{f:Fc}(h:okF pts.length f=true):f.2.length<=8/\∀r∈f.1::f.2,wD pts.length r=true:=by
 unfold okF at h;rw[Va] at h;exact⟨of_decide_eq_true h.1,Vo.1 h.2⟩
def Cj(hb:iW pts)(ho:SY pts F)(hF:F.length<1000)(hn:1000<n):bL (B2 n F pts) n 0=some (cm (jb (QF pts) F) (.inr ()) F.length 0):=by
 refine dM (len:=F.length) (fun i hi=>?_) ?_ F.length 0 n (by omega) (by omega)
 ·have hx:=U4 hi;generalize F[i]=f at hx;obtain⟨h8,h9⟩:=rf (ho f (VD hx));obtain⟨o,h⟩:=f;replace h8:h.length<=8:=h8;unfold B2 jb QF;rw[hx]
  try dsimp only
  rw[aH (by omega),aC hi,bf,bM hx,aj]
  try dsimp only
  rw[y8 n _ _ (by omega) hn,aj,Kn n hb (by simp; omega) h9 hn,aw (by omega)]
  cases(o::h).all (fun r=>decide (yo (dP pts r 1)))<;>rfl
 ·unfold B2
  try dsimp only
  rw[aF (by omega)]
end
def nZ(pts:YB I2)(rs:XE)(i:Nat):YA (YC⊕YC):=match rs[i]? with|some r=>if decide (i=0)==decide (0<fw (dP pts r 1)) then none else some (.inl ())|none=>none
def Ol(pts:YB I2)(f:Fc):Bool:=match cm (nZ pts (f.1::f.2)) (.inr ()) (f.1::f.2).length 0 with|.inl _=>false|.inr _=>true
section
variable{pts:YB I2}{F:YB Fc}(n:Nat)
def J6(hb:iW pts){r:YB Int}(hx:Ix pts r)(h3:3<=r.length)(i:Nat):Nr (nx (dP pts r 1) i) :=
 CQ (P:=Nr) (by rw[fW]; omega) (fun i hi=>by
  refine IM hb hx _ ?_;unfold nx;rw[WA hi,U7,U4 hi];exact Vg _) i
def I0(hb:iW pts){rs:XE}(hr:rs.length<1000)(ho:∀r∈rs,wD pts.length r=true)(ha:∀r∈rs,fw (dP pts r 1)≠0)(hn:1000<n):bL (Ck n rs pts F) n 0=some (cm (nZ pts rs) (.inr ()) rs.length 0):=by
 refine dM (len:=rs.length) (fun i hi=>?_) ?_ rs.length 0 n (by omega) (by omega)
 ·have hx:=U4 hi;generalize rs[i]=r at hx;obtain⟨hix,h3,h4⟩:=ou rfl (ho r (VD hx));have hne:=ha r (VD hx);unfold Ck nZ;rw[hx]
  try dsimp only
  rw[aH (by omega),aC hi,bf,bM hx,aj,yT n hb hix (.inl rfl) (by omega) (by omega),aj,PJ n (J6 hb hix h3) (by rw[fW]; omega) (by rw[fW]; omega),aj,aj,aw (by omega)]
  by_cases g:i=0
  subst g
  by_cases h:fw (dP pts r 1)<0
  rw[Vc h,Vj (show ¬0<fw (dP pts r 1) by omega)]; rfl
  rw[Vj h,Vc (show 0<fw (dP pts r 1) by omega)]; rfl
  rw[Vj g,Vj (show ¬(i:Int)=0 by omega)]
  by_cases h:fw (dP pts r 1)<0
  rw[Vc h,Vj (show ¬0<fw (dP pts r 1) by omega)]; rfl
  rw[Vj h,Vc (show 0<fw (dP pts r 1) by omega)]; rfl
 ·unfold Ck
  try dsimp only
  rw[aF (by omega)]
def AT(hb:iW pts)(ho:SY pts F)(ha:∀f∈F,∀r∈f.1::f.2,fw (dP pts r 1)≠0)(hF:F.length<1000)(hn:1000<n):bL (Ce n F pts) n 0=some (cm (jb (Ol pts) F) (.inr ()) F.length 0):=by
 refine dM (len:=F.length) (fun i hi=>?_) ?_ F.length 0 n (by omega) (by omega)
 ·have hx:=U4 hi;generalize F[i]=f at hx;obtain⟨h8,h9⟩:=rf (ho f (VD hx));have h10:=ha f (VD hx);obtain⟨o,h⟩:=f;replace h8:h.length<=8:=h8;unfold Ce jb Ol;rw[hx]
  try dsimp only
  rw[aH (by omega),aC hi,bf,bM hx,aj]
  try dsimp only
  rw[y8 n _ _ (by omega) hn,aj,I0 n hb (by simp; omega) h9 h10 hn,aw (by omega)]
  cases cm (nZ pts (o::h)) (.inr ()) (o::h).length 0<;>rfl
 ·unfold Ce
  try dsimp only
  rw[aF (by omega)]
end
end Go.Proofs.Ytmndpgfbkicndaa
end
section
namespace Jd
section
variable{n:Nat}{v:Nat->P2}
def Simple.MK(S:Simple n v){L:Int}(hL:∀i,i<n->HS n v 1 i L/\HS n v (-1) i (L-1)){p:P2}(hp:∀i,i<n->(v i).2≠p.2):W n v p=0\/W n v p=2*L-1/\(L=0\/L=1):=by
 have hn3:=S.n3;have hp':∀i,i<n->(v (i+1)).2≠p.2:=fun i hi=>by
  by_cases e:i+1=n
  rw[e,S.cl]; exact hp 0 (by omega)
  exact hp (i+1) (by omega)
 have hX:∀i,∃X:Rat,i<n->(∀q:P2,q.2=p.2->we (v i) (v (i+1)) q=if q.1<X then dd (v i) (v (i+1)) p.2 else 0)/\(dd (v i) (v (i+1)) p.2≠0->∃t,0<t/\t<1/\cv (v i) (v (i+1)) t=(X,p.2)):=fun i=>by
  by_cases hi:i<n
  obtain⟨X,h⟩:=BJ (hp i hi) (hp' i hi);exact⟨X,fun _=>h⟩
  exact⟨0,fun h=>Vr h hi⟩
 obtain⟨X,hX⟩:=Classical.axiomOfChoice hX;have hW:∀q:P2,q.2=p.2->W n v q=aY n fun i=>if q.1<X i then dd (v i) (v (i+1)) p.2 else 0:=fun q hq=>ay fun i hi=>(hX i hi).1 q hq
 by_cases hE:∃i,i<n/\(dd (v i) (v (i+1)) p.2≠0/\p.1<X i)
 obtain⟨i,i1,⟨i2,i3⟩,i4⟩:=ql (X:=X) hE;obtain⟨k,k1,⟨k2,k3⟩,k4⟩:=ql (X:=fun i=>-X i) hE;have hl:W n v p=L\/W n v p=L-1:=by
  obtain⟨t,t0,t1,t2⟩:=(hX i i1).2 i2;have key:∀σ M,0 < σ*cr (v i) (v (i+1)) (-1,0)->HS n v σ i M->W n v p=M:=by
   intro σ M hσ hM;obtain⟨e,e0,he⟩:=hM t (-1,0) t0 t1 hσ;obtain⟨x,x0,xe,xp⟩:=gW e0 (show 0<X i-p.1 by grind)
   rw[<-he x x0 (by grind),t2,hW p rfl,hW (sm (X i,p.2) (-1,0) x) (by unfold sm; grind)]
   refine ay fun j hj=>?_
   by_cases hd:dd (v j) (v (j+1)) p.2=0
   rw[hd,ite_self,ite_self]
   by_cases hx:p.1<X j
   have:=i4 j hj ⟨hd,hx⟩;rw[U5 hx,U5 (by unfold sm; grind)]
   rw[U3 hx,U3 (by unfold sm; grind)]
  by_cases h1:(v i).2<p.2/\p.2<(v (i+1)).2
  exact .inl (key 1 L (by unfold cr; grind) (hL i i1).1)
  have h2:(v (i+1)).2<p.2/\p.2<(v i).2:=by
   unfold dd at i2;rw[U3 h1] at i2;exact U6 fun h=>i2 (U3 h)
  exact .inr (key (-1) (L-1) (by unfold cr; grind) (hL i i1).2)
 have hr:L=0\/L=1:=by
  obtain⟨t,t0,t1,t2⟩:=(hX k k1).2 k2;have key:∀σ M,0 < σ*cr (v k) (v (k+1)) (1,0)->HS n v σ k M->M=0:=by
   intro σ M hσ hM;obtain⟨e,e0,he⟩:=hM t (1,0) t0 t1 hσ;rw[<-he e e0 (by grind),t2,hW (sm (X k,p.2) (1,0) e) (by unfold sm; grind)]
   refine bw fun j hj=>?_
   by_cases hd:dd (v j) (v (j+1)) p.2=0
   rw[hd,ite_self]
   refine U3 fun hx=>?_;have hx':X k+e<X j:=by unfold sm at hx; grind
   have:=k4 j hj ⟨hd,by grind⟩
   grind
  by_cases h1:(v k).2<p.2/\p.2<(v (k+1)).2
  have:=key (-1) (L-1) (by unfold cr; grind) (hL k k1).2
  exact .inr (by omega)
  have h2:(v (k+1)).2<p.2/\p.2<(v k).2:=by
   unfold dd at k2;rw[U3 h1] at k2;exact U6 fun h=>k2 (U3 h)
  exact .inl (key 1 L (by unfold cr; grind) (hL k k1).1)
 omega
 left
 rw[hW p rfl];refine bw fun j hj=>?_
 by_cases hd:dd (v j) (v (j+1)) p.2=0
 rw[hd,ite_self]
 exact U3 fun hx=>hE ⟨j,hj,hd,hx⟩
def Simple.Hu(S:Simple n v){L:Int}(hL:∀i,i<n->HS n v 1 i L/\HS n v (-1) i (L-1)){p:P2}(hp:∀i,i<n->((v i).2<=p.2/\p.2<(v (i+1)).2)\/((v (i+1)).2<=p.2/\p.2<(v i).2)->tn (v i) (v (i+1)) p≠0) :
  W n v p=0\/W n v p=2*L-1/\(L=0\/L=1):=by
 have hn3:=S.n3;have h1:Ev fun x _=>∀i,i<n->(v i).2<=p.2\/p.2+x<(v i).2:=Ev.all (P:=fun i x _=>(v i).2<=p.2\/p.2+x<(v i).2) fun i _=>by
  by_cases h:(v i).2<=p.2
  exact Ev.of fun _ _ _ _=>.inl h
  exact⟨((v i).2-p.2)/2,by grind,fun x y x0 x1 _ _=>.inr (by grind)⟩
 have h2:Ev fun x _=>∀i,i<n->(tn (v i) (v (i+1)) p<0->tn (v i) (v (i+1)) (p.1,p.2+x)<0)/\(0<tn (v i) (v (i+1)) p->0<tn (v i) (v (i+1)) (p.1,p.2+x)) :=
  Ev.all (P:=fun i x _=>(tn (v i) (v (i+1)) p<0->tn (v i) (v (i+1)) (p.1,p.2+x)<0)/\(0<tn (v i) (v (i+1)) p->0<tn (v i) (v (i+1)) (p.1,p.2+x))) fun i _=>by
   have e:∀x,tn (v i) (v (i+1)) (p.1,p.2+x)=tn (v i) (v (i+1)) p+x*((v (i+1)).1-(v i).1):=fun x=>by unfold tn; grind
   by_cases hm:tn (v i) (v (i+1)) p<0
   obtain⟨a,a0,ha⟩:=yv hm ((v (i+1)).1-(v i).1);exact⟨a,a0,fun x y x0 x1 _ _=>⟨fun _=>by rw[e]; exact ha x x0 x1,fun h=>by grind⟩⟩
   by_cases hq:0<tn (v i) (v (i+1)) p
   obtain⟨a,a0,ha⟩:=yv (A:=-tn (v i) (v (i+1)) p) (by grind) (-((v (i+1)).1-(v i).1))
   exact⟨a,a0,fun x y x0 x1 _ _=>⟨fun h=>Vr h hm,fun _=>by rw[e]; have:=ha x x0 x1; grind⟩⟩
   exact Ev.of fun _ _ _ _=>⟨fun h=>Vr h hm,fun h=>Vr h hq⟩
 obtain⟨x,x0,hx⟩:=h1.and h2;obtain⟨g1,g2⟩:=hx x x x0 (by grind) x0 (by grind)
 have g1':∀i,i<n->(v (i+1)).2<=p.2\/p.2+x<(v (i+1)).2:=fun i hi=>by
  by_cases e:i+1=n
  rw[e,S.cl]; exact g1 0 (by omega)
  exact g1 (i+1) (by omega)
 have e:W n v p=W n v (p.1,p.2+x):=ay fun i hi=>by
  have a:=g1 i hi;have b:=g1' i hi;obtain⟨c1,c2⟩:=g2 i hi;have hc:=hp i hi
  by_cases k1:(v i).2<=p.2/\p.2<(v (i+1)).2
  rw[kK k1.1 k1.2,kK (by grind) (by grind)]
  exact oQ ⟨c2,fun h=>by have:=hc (.inl k1); grind⟩
  by_cases k2:(v (i+1)).2<=p.2/\p.2<(v i).2
  rw[lW (v (i+1)) (v i),lW (v (i+1)) (v i),kK k2.1 k2.2,kK (by grind) (by grind),kA (v i),kA (v i)]
  rw[oQ (d:=0 < -tn (v i) (v (i+1)) (p.1,p.2+x)) ⟨fun h=>by have:=c1 (by grind); grind,fun h=>by have:=hc (.inr k2); grind⟩]
  rw[fB k1 k2,fB (by grind) (by grind)]
 rw[e];exact S.MK hL fun i hi=>by have:=g1 i hi; grind
def Simple.sign(S:Simple n v):∃s:Int,(s=1\/s = -1)/\∀p:P2,(∀i,i<n->((v i).2<=p.2/\p.2<(v (i+1)).2)\/((v (i+1)).2<=p.2/\p.2<(v i).2)->tn (v i) (v (i+1)) p≠0)->W n v p=0\/W n v p=s:=by
 obtain⟨L,hL⟩:=S.along
 by_cases h:L=0\/L=1
 exact⟨2*L-1,by omega,fun p hp=>(S.Hu hL hp).imp_right And.left⟩
 exact⟨1,.inl rfl,fun p hp=>.inl ((S.Hu hL hp).resolve_right fun g=>h g.2)⟩
end
def pX(a:I2):I2:=(-a.1,-a.2)
def wj(a b p:I2):Int:=if a.2<p.2/\p.2<=b.2/\ti a b p<0 then -1 else if b.2<p.2/\p.2<=a.2/\0<ti a b p then 1 else 0
def up(p v:I2):Int:=if p.2<v.2\/(v.2=p.2/\v.1<p.1) then 1 else 0
def fu(r:YB I2)(p:I2):Int:=aY r.length fun i=>wj (nx r i) (nx r (i+1)) p
def uS{a b p:I2}(h:a.2=p.2):ti a b p=(b.2-a.2)*(a.1-p.1):=by unfold ti; grind
def xA{a b p:I2}(h:b.2=p.2):ti a b p=(b.2-a.2)*(b.1-p.1):=by unfold ti; grind
def jQ{k x:Int}(h:0<k):(0<k*x↔0<x)/\(k*x<0↔x<0):=⟨jB h,fC h⟩
def ux{k x:Int}(h:k<0):(0<k*x↔x<0)/\(k*x<0↔0<x):=by
 have e:k*x = -((-k)*x):=by grind
 have:=jQ (x:=x) (show 0 < -k by omega)
 rw[e]; omega
def zE{a b p:I2}(h:ti a b p=0):wi a b p=0:=by unfold wi; rw[XP,XP]
def E7{a b p:I2}(h:ti a b p=0):wj a b p=0:=by unfold wj; rw[XP,XP]
def TJ{a b p:I2}(h:¬cD a b p):wi a b p-wj a b p=up p b-up p a:=by
 by_cases ha:a.2=p.2
 by_cases hb:b.2=p.2
 have h0:ti a b p=0:=by rw[uS ha,hb,ha]; simp
 rw[zE h0,E7 h0];have:¬(min a.1 b.1<=p.1/\p.1<=max a.1 b.1):=fun g=>h ⟨h0,g.1,g.2,by omega,by omega⟩
 unfold up
 by_cases g:a.1<p.1
 rw[U5 (.inr ⟨hb,by omega⟩),U5 (.inr ⟨ha,g⟩)]<;>rfl
 rw[XP,XP]<;>rfl
 have ht:=uS (b:=b) ha;have hne:a.1≠p.1:=fun e=>h (by rw[show p=a from VN e.symm ha.symm]; exact mQ a b)
 by_cases hb':p.2<b.2
 have s:=jQ (k:=b.2-a.2) (x:=a.1-p.1) (by omega)
 rw[<-ht] at s;unfold wi wj up
 by_cases g:a.1<p.1
 rw[XP,XP,XP,XP,XQ,XQ]<;>rfl
 rw[XQ,XP,XP,XQ,XP]<;>rfl
 have s:=ux (k:=b.2-a.2) (x:=a.1-p.1) (by omega)
 rw[<-ht] at s;unfold wi wj up
 by_cases g:a.1<p.1
 rw[XP,XP,XP,XQ,XP,XQ]<;>rfl
 rw[XP,XP,XP,XP,XP,XP]<;>rfl
 by_cases hb:b.2=p.2
 have ht:=xA (a:=a) hb;have hne:b.1≠p.1:=fun e=>h (by rw[show p=b from VN e.symm hb.symm]; exact mP a b)
 by_cases ha':p.2<a.2
 have s:=ux (k:=b.2-a.2) (x:=b.1-p.1) (by omega)
 rw[<-ht] at s;unfold wi wj up
 by_cases g:b.1<p.1
 rw[XP,XP,XP,XP,XQ,XQ]<;>rfl
 rw[XP,XQ,XP,XP,XP,XQ]<;>rfl
 have s:=jQ (k:=b.2-a.2) (x:=b.1-p.1) (by omega)
 rw[<-ht] at s;unfold wi wj up
 by_cases g:b.1<p.1
 rw[XP,XP,XQ,XQ,XP]<;>rfl
 rw[XP,XP,XP,XP,XP,XP]<;>rfl
 by_cases ha':p.2<a.2
 by_cases hb':p.2<b.2
 unfold wi wj up;rw[XP,XP,XP,XP,XQ,XQ]<;>rfl
 have h0:ti a b p≠0:=fun h0=>h (iz (.inr ⟨by omega,by omega⟩) h0)
 unfold wi wj up
 by_cases g:ti a b p<0
 rw[XP,XQ,XP,XP,XP,XQ]<;>rfl
 rw[XP,XP,XP,XQ,XP,XQ]<;>rfl
 by_cases hb':p.2<b.2
 have h0:ti a b p≠0:=fun h0=>h (iz (.inl ⟨by omega,by omega⟩) h0)
 unfold wi wj up
 by_cases g:ti a b p<0
 rw[XP,XP,XQ,XQ,XP]<;>rfl
 rw[XQ,XP,XP,XQ,XP]<;>rfl
 unfold wi wj up;rw[XP,XP,XP,XP,XP,XP]<;>rfl
instance(a b p:I2):Decidable (cD a b p):=by unfold cD; infer_instance
def N8(a b p:I2):Int:=if cD a b p then up p b-up p a else 0
def Hl(a b p:I2):wi a b p-wj a b p+N8 a b p=up p b-up p a:=by
 unfold N8
 by_cases h:cD a b p
 rw[U5 h,zE h.1,E7 h.1]; omega
 rw[U3 h,<-TJ h]; omega
def EE(r:YB I2)(p:I2):cJ r p-fu r p+aY r.length (fun i=>N8 (nx r i) (nx r (i+1)) p)=0:=by
 have h1:=j4 r.length fun i=>up p (nx r i);rw[lN,Int.sub_self] at h1;have h2:=iR r.length (fun i=>wi (nx r i) (nx r (i+1)) p-wj (nx r i) (nx r (i+1)) p) fun i=>N8 (nx r i) (nx r (i+1)) p;rw[fU] at h2;unfold cJ fu;rw[<-h2,<-h1];exact ay fun i _=>Hl _ _ _
def BW{r:YB I2}{p:I2}(hp:∀i,i<r.length->¬cD (nx r i) (nx r (i+1)) p):fu r p=cJ r p:=by
 have h:=EE r p;rw[bw (fun i hi=>by unfold N8; rw[U3 (hp i hi)])] at h
 omega
def DE(a b p:I2):ti (pX a) (pX b) (pX p)=ti a b p:=by unfold ti pX; grind
def C2(a b p:I2):wi (pX a) (pX b) (pX p)=wj a b p:=by
 unfold wi wj;rw[DE];unfold pX
 dsimp only
 by_cases h1:a.2<p.2/\p.2<=b.2/\ti a b p<0
 rw[XP,XQ,U5 h1]
 rw[U3 h1]
 by_cases h2:b.2<p.2/\p.2<=a.2/\0<ti a b p
 rw[XQ,U5 h2]
 rw[XP,XP,U3 h2]
def mY{r:YB I2}(h:r≠[])(p:I2):cJ (r.map pX) (pX p)=fu r p:=by
 unfold cJ fu;rw[Vf];exact ay fun i _=>by rw[bh _ h,bh _ h,C2]
def zp{a b c:I2}:cD (pX a) (pX b) (pX c)↔cD a b c:=by
 unfold cD;rw[DE];unfold pX
 dsimp only
 omega
def k6{N:Int}{t:Rat}(hN:0<N)(ht:(N:Rat)*t=1)(a q:Int):((a:Rat)<=(q:Rat)*t↔a*N<=q)/\((q:Rat)*t<(a:Rat)↔q<a*N):=by
 have hN':(0:Rat)<(N:Rat):=eJ.2 hN;have t0:0<t:=by
  refine U6 fun h=>?_;have:=dC (show 0<=(N:Rat) by grind) (show t<=0 by grind)
  grind
 have key:(a:Rat)<=(q:Rat)*t↔a*N<=q:=by
  rw[<-vG,Wu];constructor
  intro h;have:=cb (show 0<=(q:Rat)*t-a by grind) (show 0<=(N:Rat) by grind)
  rw[show((q:Rat)*t-a)*N=q*(N*t)-a*N by grind,ht,Rat.mul_one] at this
  grind
  intro h;have:=cb (show 0<=(q:Rat)-a*N by grind) (show 0<=t by grind)
  rw[show((q:Rat)-a*N)*t=q*t-a*(N*t) by grind,ht,Rat.mul_one] at this
  grind
 refine⟨key,?_⟩;constructor
 intro h;have:=mt key.2 (by grind)
 omega
 intro h;have:=mt key.1 (by omega)
 grind
def uU{N:Int}{t:Rat}(ht:(N:Rat)*t=1)(a b q:I2):tn (ca a) (ca b) ((q.1:Rat)*t,(q.2:Rat)*t)=((ti (bK N a) (bK N b) q:Int):Rat)*(t*t):=by
 rw[<-mK];unfold tn ca bK;simp only[Wu]
 grind
def rY{N:Int}{t:Rat}(hN:0<N)(ht:(N:Rat)*t=1)(x:Int):(0<(x:Rat)*(t*t)↔0<x)/\((x:Rat)*(t*t)<0↔x<0):=by
 have hN':(0:Rat)<(N:Rat):=eJ.2 hN;have t0:0<t:=by
  refine U6 fun h=>?_;have:=dC (show 0<=(N:Rat) by grind) (show t<=0 by grind)
  grind
 have tt:=bt t0 t0;have p1:∀y:Int,0<y->0<(y:Rat)*(t*t):=fun y hy=>bt (eJ.2 hy) tt;have p2:∀y:Int,y<0->(y:Rat)*(t*t)<0:=fun y hy=>by
  have:=bt (show(0:Rat) < -(y:Rat) by have:=ky.2 hy; grind) tt
  grind
 rcases W4 x 0 with g|g|g
 have:=p2 x g;constructor<;>constructor<;>intro k<;>first|omega|grind
 subst g;simp
 have:=p1 x g;constructor<;>constructor<;>intro k<;>first|omega|grind
def ui{N:Int}{t:Rat}(hN:0<N)(ht:(N:Rat)*t=1)(a b q:I2):we (ca a) (ca b) ((q.1:Rat)*t,(q.2:Rat)*t)=wi (bK N a) (bK N b) q:=by
 have sp:=rY hN ht;unfold we wi;rw[uU ht];unfold ca
 dsimp only
 simp only[(k6 hN ht _ _).1,(k6 hN ht _ _).2,(sp _).1,(sp _).2]
 rfl
def VR.Kf{r:YB I2}(h:VR r){s:Int}(hm:∀p:P2,(∀i,i<r.length->((ca (nx r i)).2<=p.2/\p.2<(ca (nx r (i+1))).2)\/((ca (nx r (i+1))).2<=p.2/\p.2<(ca (nx r i)).2)->tn (ca (nx r i)) (ca (nx r (i+1))) p≠0)->W r.length (fun i=>ca (nx r i)) p=0\/W r.length (fun i=>ca (nx r i)) p=s) :
  ∀N:Int,0<N->∀q:I2,(∀i,i<r.length->¬cD (bK N (nx r i)) (bK N (nx r (i+1))) q)->Jd.cJ (r.map (bK N)) q=0\/Jd.cJ (r.map (bK N)) q=s:=by
 have hr:r≠[]:=fun e=>by have:=h.n3; rw[e] at this; simp at this
 intro N hN q hq;have hN':(0:Rat)<(N:Rat):=eJ.2 hN;have ht:(N:Rat)*(N:Rat)⁻¹=1:=Xv _ (by grind)
 generalize(N:Rat)⁻¹=t at ht;have sp:=rY hN ht;have e:W r.length (fun i=>ca (nx r i)) ((q.1:Rat)*t,(q.2:Rat)*t)=Jd.cJ (r.map (bK N)) q:=by
  unfold Jd.cJ W;rw[Vf];refine ay fun i _=>?_;rw[bh _ hr,bh _ hr];exact ui hN ht _ _ _
 rw[<-e];refine hm _ fun i hi hl=>?_
 show tn (ca (nx r i)) (ca (nx r (i+1))) _≠0
 rw[uU ht];intro h0;have hz:=sp (ti (bK N (nx r i)) (bK N (nx r (i+1))) q);have h0':ti (bK N (nx r i)) (bK N (nx r (i+1))) q=0:=by
  have a1:=mt hz.1.2 (by rw[h0]; grind)
  have a2:=mt hz.2.2 (by rw[h0]; grind)
  omega
 refine hq i hi (iz ?_ h0');unfold ca at hl
 dsimp only at hl
 simp only[(k6 hN ht _ _).1,(k6 hN ht _ _).2] at hl;exact hl
def VR.sign{r:YB I2}(h:VR r):∃s:Int,(s=1\/s = -1)/\∀N:Int,0<N->∀q:I2,(∀i,i<r.length->¬cD (bK N (nx r i)) (bK N (nx r (i+1))) q)->Jd.cJ (r.map (bK N)) q=0\/Jd.cJ (r.map (bK N)) q=s:=by
 obtain⟨s,hs,hm⟩:=h.simple.sign;exact⟨s,hs,h.Kf hm⟩
def DY{u w:Int}(h:(0<=w/\w<=u)\/(u<=w/\w<=0)):0<=u*w/\(w≠0->0<u*w):=by
 rcases h with h|h
 exact⟨VP (by omega) h.1,fun h0=>Wq (by omega) (by omega)⟩
 exact⟨Wb (by omega) h.2,fun h0=>Xa (by omega) (by omega)⟩
def Ec{a v p:I2}(h:cD a v p)(hne:p≠v):(a.1-v.1)*(p.2-v.2)=(a.2-v.2)*(p.1-v.1)/\0<(a.1-v.1)*(p.1-v.1)+(a.2-v.2)*(p.2-v.2):=by
 obtain⟨h0,h1,h2,h3,h4⟩:=h;have e1:=DY (u:=a.1-v.1) (w:=p.1-v.1) (by omega)
 have e2:=DY (u:=a.2-v.2) (w:=p.2-v.2) (by omega)
 refine⟨by unfold ti at h0; grind,?_⟩
 by_cases g:p.1-v.1=0
 have g2:p.2-v.2≠0:=fun g2=>hne (VN (by omega) (by omega))
 have:=e2.2 g2;omega
 have:=e1.2 g;omega
def zG{a v b p:I2}(h1:cD a v p)(h2:cD v b p)(hne:p≠v):ti a v b=0/\di a v b<0:=by
 obtain⟨e1,d1⟩:=Ec h1 hne;obtain⟨e2,d2⟩:=Ec h2.swap hne;have hd:=MT (u:=(a.1-v.1,a.2-v.2)) (v:=(b.1-v.1,b.2-v.2)) (w:=(p.1-v.1,p.2-v.2)) e1 e2 d1 d2
 dsimp only at hd
 refine⟨?_,by unfold di; grind⟩
 have hw:¬(p.1-v.1=0/\p.2-v.2=0):=fun g=>hne (VN (by omega) (by omega))
 have hx:(p.1-v.1)*ti a v b=0:=by unfold ti; grind
 have hy:(p.2-v.2)*ti a v b=0:=by unfold ti; grind
 rcases Wp.1 hx with g|g
 rcases Wp.1 hy with k|k
 exact Vr ⟨g,k⟩ hw
 exact k
 exact g
def D2{x a b:Int}(h:min a b<=x/\x<=max a b):0<=(b-x)*(b-a)/\0<=(x-a)*(b-a):=by
 rcases Int.le_total a b with g|g
 exact⟨VP (by omega) (by omega),VP (by omega) (by omega)⟩
 exact⟨Wb (by omega) (by omega),Wb (by omega) (by omega)⟩
def Em{a b p:I2}(hab:a≠b)(h:cD a b p):∃w1 w2 D:Int,0<=w1/\0<=w2/\w1+w2=D/\0<D/\D*p.1=w1*a.1+w2*b.1/\D*p.2=w1*a.2+w2*b.2:=by
 obtain⟨h0,h1,h2,h3,h4⟩:=h;have e1:=D2 ⟨h1,h2⟩;have e2:=D2 ⟨h3,h4⟩;refine⟨(b.1-p.1)*(b.1-a.1)+(b.2-p.2)*(b.2-a.2),(p.1-a.1)*(b.1-a.1)+(p.2-a.2)*(b.2-a.2),(b.1-a.1)*(b.1-a.1)+(b.2-a.2)*(b.2-a.2),by omega,by omega,by grind,?_,?_,?_⟩
 have s1:=@NU (b.1-a.1);have s2:=@NU (b.2-a.2);refine U6 fun k=>hab ?_;have g1:=Mm (show(b.1-a.1)*(b.1-a.1)=0 by omega)
 have g2:=Mm (show(b.2-a.2)*(b.2-a.2)=0 by omega)
 exact VN (by omega) (by omega)
 unfold ti at h0; grind
 unfold ti at h0; grind
def zk{a b p:I2}(hab:a≠b)(h:cD a b p){α β γ:Rat}(ha:0<af α β γ (ca a))(hb:0<af α β γ (ca b)):0<af α β γ (ca p):=by
 obtain⟨w1,w2,D,h1,h2,h3,h4,h5,h6⟩:=Em hab h;have c5:(D:Rat)*(p.1:Rat)=(w1:Rat)*a.1+(w2:Rat)*b.1:=by rw[<-Wu,h5,Xm,Wu,Wu]
 have c6:(D:Rat)*(p.2:Rat)=(w1:Rat)*a.2+(w2:Rat)*b.2:=by rw[<-Wu,h6,Xm,Wu,Wu]
 have c3:(w1:Rat)+(w2:Rat)=D:=by rw[<-Xm,h3]
 have d0:(0:Rat)<D:=eJ.2 h4;have n1:(0:Rat)<=w1:=by have:=(vG (x:=0) (y:=w1)).2 h1; simpa using this
 have n2:(0:Rat)<=w2:=by have:=(vG (x:=0) (y:=w2)).2 h2; simpa using this
 have e:(D:Rat)*af α β γ (ca p)=w1*af α β γ (ca a)+w2*af α β γ (ca b):=by
  unfold af ca
  dsimp only
  grind
 have q1:=cb n1 (show 0<=af α β γ (ca a) by grind)
 have q2:=cb n2 (show 0<=af α β γ (ca b) by grind)
 have q:0<(D:Rat)*af α β γ (ca p):=by
  rw[e]
  by_cases k:(w1:Rat)=0
  have:0<(w2:Rat):=by grind
  have:=bt this hb
  grind
  have:=bt (show 0<(w1:Rat) by grind) ha
  grind
 refine U6 fun k=>?_;have:=dC (show 0<=(D:Rat) by grind) (show af α β γ (ca p)<=0 by grind)
 grind
def K6{a b c d p:I2}(hab:a≠b)(hcd:c≠d)(h:NM a b c d)(h1:cD a b p)(h2:cD c d p):False:=by
 obtain⟨α,β,γ,g1,g2,g3,g4⟩:=qF hab hcd h.1 h.2;have k1:=zk hab h1 g1 g2;have k2:=zk (α:=-α) (β:=-β) (γ:=-γ) hcd h2 (by unfold af at *; grind) (by unfold af at *; grind)
 unfold af at k1 k2; grind
section
variable{r:YB I2}
def VR.J1(h:VR r){i j:Nat}(hij:i<j)(hj:j<r.length){p:I2}(hi:cD (nx r i) (nx r (i+1)) p)(hp:cD (nx r j) (nx r (j+1)) p):(j=i+1/\p=nx r j)\/(i=0/\j+1=r.length/\p=nx r 0):=by
 by_cases h1:j=i+1
 subst h1;refine .inl ⟨rfl,U6 fun hne=>h.spike i (zG hi hp hne)⟩
 by_cases h2:i=0/\j+1=r.length
 obtain⟨rfl,h2⟩:=h2;refine .inr ⟨rfl,h2,U6 fun hne=>?_⟩;have e1:nx r (j+1)=nx r 0:=by rw[h2,lN]
 have e2:nx r (j+2)=nx r 1:=by
  rw[show j+2=1+r.length by omega]
  exact jh r (Nat.add_mod_right 1 r.length)
 have:=h.spike j;rw[e1,e2] at this;rw[e1] at hp;exact this (zG hp hi hne)
 exact(K6 (h.still i) (h.still j) (h.meet i j (by omega) hj h2) hi hp).elim
def pv(r:YB I2)(m:Nat):Nat:=if m=0 then r.length-1 else m-1
def RO{m:Nat}(hm:m<r.length):pv r m<r.length:=by unfold pv; split<;>omega
def Ii{m:Nat}(hm:m<r.length):nx r (pv r m+1)=nx r m:=by
 unfold pv
 by_cases h:m=0
 subst h; rw[U5 rfl,show r.length-1+1=r.length by omega,lN]
 rw[U3 h,show m-1+1=m by omega]
def HM{n k l:Nat}{f:Nat->Int}(hkl:k<l)(hl:l<n)(h:∀i,i<n->i≠k->i≠l->f i=0):aY n f=f k+f l:=by
 have h1:=fU n f fun i=>if i=k then f k else 0
 have h2:=dF (n:=n) (k:=k) (f:=fun i=>if i=k then f k else 0) (by omega) fun i _ hne=>U3 hne
 have h3:=dF (n:=n) (k:=l) (f:=fun i=>f i-if i=k then f k else 0) hl fun i hi hne=>by
  by_cases e:i=k
  rw[U5 e,e]; omega
  rw[U3 e,h i hi e hne]; rfl
 rw[U5 rfl] at h2;rw[XP] at h3
 omega
def VR.rp(h:VR r){m i:Nat}(hm:m<r.length)(hi:i<r.length)(hb:cD (nx r i) (nx r (i+1)) (nx r m)):i=m\/i=pv r m:=by
 by_cases e:i=m
 exact .inl e
 refine .inr ?_;have hself:cD (nx r m) (nx r (m+1)) (nx r m):=mQ _ _;have hn3:=h.n3;rcases Nat.lt_or_gt_of_ne e with g|g
 rcases h.J1 g hm hb hself with⟨k,_⟩|⟨k1,k2,k3⟩
 unfold pv; rw[XP]; omega
 exfalso;subst k1;have hp:pv r m<r.length:=RO hm;have hs:cD (nx r (pv r m)) (nx r (pv r m+1)) (nx r m):=by rw[Ii hm]; exact mP _ _
 have e2:pv r m=m-1:=by unfold pv; rw[XP]
 have hlt:0<pv r m:=by rw[e2]; omega
 rcases h.J1 hlt hp hb hs with⟨k,k'⟩|⟨_,k,_⟩
 rw[e2] at k k';have:=h.still 0;have e3:nx r (m-1)=nx r 1:=by rw[k]
 rw[e3] at k';exact this (by rw[<-k3,k'])
 omega
 rcases h.J1 g hi hself hb with⟨k,k'⟩|⟨k1,k2,k3⟩
 subst k; exact Vr k' (h.still m)
 unfold pv; rw[U5 k1]; omega
def VR.inj(h:VR r){i j:Nat}(hi:i<r.length)(hj:j<r.length)(e:nx r i=nx r j):i=j:=by
 have hn3:=h.n3;rcases h.rp hj hi (by rw[<-e]; exact mQ _ _) with g|g
 exact g
 exfalso;subst g;have:=h.still (pv r j);rw[Ii hj] at this;exact this e
def VR.CS(h:VR r){i j:Nat}(hi:i<r.length)(hj:j<r.length){p:I2}(hp:∀k,p≠nx r k)(h1:cD (nx r i) (nx r (i+1)) p)(h2:cD (nx r j) (nx r (j+1)) p):i=j:=by
 refine U6 fun hne=>?_;rcases Nat.lt_or_gt_of_ne hne with g|g
 rcases h.J1 g hj h1 h2 with⟨_,k⟩|⟨_,_,k⟩<;>exact hp _ k
 rcases h.J1 g hi h2 h1 with⟨_,k⟩|⟨_,_,k⟩<;>exact hp _ k
end
def Lg(P:Int->Prop):Prop:=∃k,∀N,k<=N->P N
def Lg.ge(k:Int):Lg (k<=·):=⟨k,fun _ h=>h⟩
def Lg.and{P Q:Int->Prop}(h:Lg P)(g:Lg Q):Lg fun N=>P N/\Q N:=by
 obtain⟨a,ha⟩:=h;obtain⟨b,hb⟩:=g;exact⟨max a b,fun N hN=>⟨ha N (by omega),hb N (by omega)⟩⟩
def Lg.imp{P Q:Int->Prop}(h:Lg P)(g:∀N,P N->Q N):Lg Q:=by
 obtain⟨a,ha⟩:=h;exact⟨a,fun N hN=>g N (ha N hN)⟩
def Lg.all{P:Nat->Int->Prop}{n:Nat}(h:∀i,i<n->Lg (P i)):Lg fun N=>∀i,i<n->P i N:=by
 induction n with
 | zero=>exact⟨0,fun _ _ i hi=>by omega⟩
 | succ n ih =>
  refine((ih fun i hi=>h i (by omega)).and (h n (by omega))).imp fun N g i hi=>?_
  by_cases e:i=n
  rw[e]; exact g.2
  exact g.1 i (by omega)
def Lg.get{P:Int->Prop}(h:Lg P):∃N,0<N/\P N:=by
 obtain⟨k,hk⟩:=h;exact⟨max k 1,by omega,hk _ (by omega)⟩
def zK{T:Int}(h:0<T)(C:Int):Lg fun N=>0<N*T+C:=⟨max 0 (1-C),fun N hN=>by
 have:=We (show 1<=T by omega) (show 0<=N by omega)
 omega⟩
def PU{T:Int}(h:T<0)(C:Int):Lg fun N=>N*T+C<0:=(zK (show 0 < -T by omega) (-C)).imp fun N g=>by
 rw[Int.mul_neg] at g; omega
def P7{x y d N:Int}(d0:0<=d)(hN:d<N):(x*N<=y*N+d↔x<=y)/\(y*N+d<x*N↔y<x):=by
 have:x*N<=y*N+d↔x<=y:=by
  constructor
  intro h;refine U6 fun g=>?_;have:=Wt (show y+1<=x by omega) (show 0<=N by omega)
  rw[Int.add_mul] at this;omega
  intro h;have:=Wt h (show 0<=N by omega)
  omega
 exact⟨this,by omega⟩
def oj{x y d N:Int}(hN:d<N)(n0:0<=N)(h:x<y):x*N+d<y*N:=by
 have:=Wt (show x+1<=y by omega) n0
 rw[Int.add_mul] at this;omega
def zh(N:Int)(a b p δ:I2):ti (bK N a) (bK N b) (pw δ (bK N p))=N*(N*ti a b p+((b.1-a.1)*δ.2-(b.2-a.2)*δ.1)):=by unfold ti bK pw; grind
def AI{a b p δ:I2}(h:¬cD a b p)(hd:0<=δ.2):Lg fun N=>wi (bK N a) (bK N b) (pw δ (bK N p))=wi a b p/\¬cD (bK N a) (bK N b) (pw δ (bK N p)):=by
 have hl:∀N:Int,max 1 (δ.2+1)<=N->((bK N a).2<=(pw δ (bK N p)).2↔a.2<=p.2)/\((pw δ (bK N p)).2<(bK N a).2↔p.2<a.2)/\((bK N b).2<=(pw δ (bK N p)).2↔b.2<=p.2)/\((pw δ (bK N p)).2<(bK N b).2↔p.2<b.2):=fun N hN=>by
  have h1:=P7 (x:=a.2) (y:=p.2) hd (show δ.2<N by omega)
  have h2:=P7 (x:=b.2) (y:=p.2) hd (show δ.2<N by omega)
  exact⟨h1.1,h1.2,h2.1,h2.2⟩
 rcases W4 (ti a b p) 0 with g|g|g
 refine((Lg.ge (max 1 (δ.2+1))).and (PU g ((b.1-a.1)*δ.2-(b.2-a.2)*δ.1))).imp fun N ⟨h1,h2⟩=>?_;have hs:=(jQ (x:=N*ti a b p+((b.1-a.1)*δ.2-(b.2-a.2)*δ.1)) (show 0<N by omega)).2.2 h2
 rw[<-zh] at hs;refine⟨?_,fun hb=>by have:=hb.1; omega⟩
 unfold wi;obtain⟨l1,l2,l3,l4⟩:=hl N h1
 by_cases k:b.2<=p.2/\p.2<a.2/\ti a b p<0
 rw[XP,XQ,XP,U5 k]
 rw[XP,XP,XP,U3 k]
 refine(Lg.ge (max (max 1 (δ.2+1)) (max (δ.1+1) (1-δ.1)))).imp fun N h1=>?_;obtain⟨l1,l2,l3,l4⟩:=hl N (by omega)
 have hn:¬((a.2<=p.2/\p.2<b.2)\/(b.2<=p.2/\p.2<a.2)):=fun k=>h (iz k g);refine⟨?_,fun hb=>?_⟩
 unfold wi;rw[XP,XP,XP,XP]
 obtain⟨_,b1,b2,b3,b4⟩:=hb;refine h ⟨g,?_,?_,?_,?_⟩
 refine U6 fun k=>?_;have k1:=oj (x:=p.1) (y:=a.1) (show δ.1<N by omega) (by omega) (by omega)
 have k2:=oj (x:=p.1) (y:=b.1) (show δ.1<N by omega) (by omega) (by omega)
 unfold pw bK at b1; dsimp only at b1; omega
 refine U6 fun k=>?_;have k1:=oj (x:=a.1) (y:=p.1) (show -δ.1<N by omega) (by omega) (by omega)
 have k2:=oj (x:=b.1) (y:=p.1) (show -δ.1<N by omega) (by omega) (by omega)
 unfold pw bK at b2; dsimp only at b2; omega
 refine U6 fun k=>?_;have k1:=oj (x:=p.2) (y:=a.2) (show δ.2<N by omega) (by omega) (by omega)
 have k2:=oj (x:=p.2) (y:=b.2) (show δ.2<N by omega) (by omega) (by omega)
 unfold pw bK at b3; dsimp only at b3; omega
 refine U6 fun k=>?_;have k1:=oj (x:=a.2) (y:=p.2) (show -δ.2<N by omega) (by omega) (by omega)
 have k2:=oj (x:=b.2) (y:=p.2) (show -δ.2<N by omega) (by omega) (by omega)
 unfold pw bK at b4; dsimp only at b4; omega
 refine((Lg.ge (max 1 (δ.2+1))).and (zK g ((b.1-a.1)*δ.2-(b.2-a.2)*δ.1))).imp fun N ⟨h1,h2⟩=>?_;have hs:=(jQ (x:=N*ti a b p+((b.1-a.1)*δ.2-(b.2-a.2)*δ.1)) (show 0<N by omega)).1.2 h2
 rw[<-zh] at hs;refine⟨?_,fun hb=>by have:=hb.1; omega⟩
 unfold wi;obtain⟨l1,l2,l3,l4⟩:=hl N h1
 by_cases k:a.2<=p.2/\p.2<b.2/\0<ti a b p
 rw[XQ,U5 k]
 rw[XP,XP,U3 k,XP]
def Ee{a b p:I2}{K:Int}(hab:a≠b)(h:cD a b p)(hK:b.1-a.1<K/\a.1-b.1<K):Lg fun N=>wi (bK N a) (bK N b) (pw (K,1) (bK N p))=wi a b p/\¬cD (bK N a) (bK N b) (pw (K,1) (bK N p)):=by
 refine(Lg.ge 2).imp fun N hN=>?_;have e:=zh N a b p (K,1);rw[h.1] at e
 dsimp only at e
 have e':ti (bK N a) (bK N b) (pw (K,1) (bK N p))=N*((b.1-a.1)-(b.2-a.2)*K):=by rw[e]; grind
 rw[zE h.1];have hl1:=P7 (x:=a.2) (y:=p.2) (show(0:Int)<=1 by omega) (show 1<N by omega)
 have hl2:=P7 (x:=b.2) (y:=p.2) (show(0:Int)<=1 by omega) (show 1<N by omega)
 have s:=jQ (x:=(b.1-a.1)-(b.2-a.2)*K) (show 0<N by omega)
 rw[<-e'] at s;rcases W4 (b.2-a.2) 0 with g|g|g
 have:(b.2-a.2)*K<=-1*K:=Wt (by omega) (by omega)
 refine⟨?_,fun hb=>by have:=hb.1; omega⟩
 unfold wi;rw[U3 (by unfold bK pw; dsimp only; omega),XP]
 rw[g,Int.zero_mul] at s;have hne:b.1-a.1≠0:=fun k=>hab (VN (by omega) (by omega))
 refine⟨?_,fun hb=>by have:=hb.1; omega⟩
 unfold wi;rw[U3 (by unfold bK pw; dsimp only; omega),U3 (by unfold bK pw; dsimp only; omega)]
 have:1*K<=(b.2-a.2)*K:=Wt (by omega) (by omega)
 refine⟨?_,fun hb=>by have:=hb.1; omega⟩
 unfold wi;rw[XP,U3 (by unfold bK pw; dsimp only; omega)]
def Sg(r:YB I2)(s:Int):Prop:=∀N:Int,0<N->∀q:I2,(∀i,i<r.length->¬cD (bK N (nx r i)) (bK N (nx r (i+1))) q)->cJ (r.map (bK N)) q=0\/cJ (r.map (bK N)) q=s
section
variable{r:YB I2}{s:Int}
def VR.ne_nil(h:VR r):r≠[]:=fun e=>by have:=h.n3; rw[e] at this; simp at this
def Sg.CD(h:VR r)(g:Sg r s)(p:I2):cJ r p=0\/cJ r p=s:=by
 obtain⟨K,_,hK⟩:=(Lg.all (n:=r.length) (P:=fun i K=>(nx r (i+1)).1-(nx r i).1<K/\(nx r i).1-(nx r (i+1)).1<K) fun i _ =>
  (Lg.ge (max ((nx r (i+1)).1-(nx r i).1) ((nx r i).1-(nx r (i+1)).1)+1)).imp fun K h=>by omega).get
 obtain⟨N,hN,hP⟩:=(Lg.all (n:=r.length) (P:=fun i N=>wi (bK N (nx r i)) (bK N (nx r (i+1))) (pw (K,1) (bK N p))=wi (nx r i) (nx r (i+1)) p/\¬cD (bK N (nx r i)) (bK N (nx r (i+1))) (pw (K,1) (bK N p))) fun i hi=>by
  by_cases hb:cD (nx r i) (nx r (i+1)) p
  exact Ee (h.still i) hb (hK i hi)
  exact AI hb (show(0:Int)<=1 by decide)).get
 have e:cJ (r.map (bK N)) (pw (K,1) (bK N p))=cJ r p:=by
  unfold cJ;rw[Vf];exact ay fun i hi=>by rw[bh _ h.ne_nil,bh _ h.ne_nil]; exact(hP i hi).1
 rw[<-e];exact g N hN _ fun i hi=>(hP i hi).2
def Ra(p v:I2):up p v=0\/up p v=1:=by unfold up; split<;>simp
def oW:Chg pX 1 1 where
 inj h:=by unfold pX at h; have h1:=Vs Prod.fst h; have h2:=Vs Prod.snd h; dsimp only at h1 h2; exact VN (by omega) (by omega)
 ti a b c:=by rw[DE]; omega
 di a b c:=by unfold di pX; grind
 kp:=by decide
 dp:=by decide
 btw:=zp
def E0(p:I2):pX (pX p)=p:=by unfold pX; simp
def ye(N:Int)(p:I2):bK N (pX p)=pX (bK N p):=by unfold bK pX; simp[Int.neg_mul]
def Sg.refl(h:r≠[])(g:Sg r s):Sg (r.map Jd.pX) s:=by
 intro N hN q hq;rw[Vf] at hq;have hne:r.map (bK N)≠[]:=by simpa using h
 have e:(r.map Jd.pX).map (bK N)=(r.map (bK N)).map Jd.pX:=by
  rw[Xh,Xh];exact List.map_congr_left fun p _=>ye N p
 have hq':∀i,i<r.length->¬cD (bK N (nx r i)) (bK N (nx r (i+1))) (Jd.pX q):=fun i hi hb=>by
  have:=hq i hi;rw[bh _ h,bh _ h,ye,ye,<-E0 q] at this;exact this (zp.2 hb)
 rw[e,<-E0 q,mY hne,BW (fun i hi=>by
  rw[Vf] at hi;rw[bh _ h,bh _ h]; exact hq' i hi)]
 exact g N hN _ hq'
def Sg.Hf(h:VR r)(g:Sg r s)(p:I2):fu r p=0\/fu r p=s:=by
 rw[<-mY h.ne_nil];exact(g.refl h.ne_nil).CD (oW.vr h) _
end
def sd(n m:Nat)(f:Nat->Nat->Int):aY n (fun i=>aY m fun j=>f i j)=aY m fun j=>aY n fun i=>f i j:=by
 induction n with
 | zero=>simp only[aY]; exact(bw fun _ _=>rfl).symm
 | succ n ih=>simp only[aY]; rw[iR,ih]
def B3(n m:Nat)(f:Nat->Int):aY (n+m) f=aY n f+aY m fun i=>f (n+i):=by
 induction m with
 | zero=>simp[aY]
 | succ m ih=>rw[<-Nat.add_assoc]; simp only[aY]; rw[ih]; omega
def qd(n:Nat)(c:Int):aY n (fun _=>c)=n*c:=by
 induction n with
 | zero=>simp[aY]
 | succ n ih=>simp only[aY]; rw[ih]; grind
def qV(n:Nat)(f:Nat->Int):aY n (fun i=>-f i) = -aY n f:=by
 have:=fU n (fun _=>0) f;rw[bw (f:=fun _=>(0:Int)) fun _ _=>rfl] at this;rw[<-Int.zero_sub (aY n f),<-this];exact ay fun i _=>by omega
def kI{B lo hi:Int}{H:Nat}(F:Int->Int)(h1:B<=lo)(h2:lo<=hi)(h3:hi<=B+H) :
  aY H (fun j=>if lo<=B+j/\B+j<hi then F (B+j) else 0)=aY (hi-lo).toNat fun k=>F (lo+k):=by
 obtain⟨n,hn⟩:∃n:Nat,lo=B+n:=⟨(lo-B).toNat,by omega⟩
 obtain⟨m,hm⟩:∃m:Nat,hi=lo+m:=⟨(hi-lo).toNat,by omega⟩
 obtain⟨k,hk⟩:∃k:Nat,H=n+m+k:=⟨H-n-m,by omega⟩
 subst hk;rw[B3,B3,bw (n:=n) fun i hi=>XP,bw (n:=k) fun i hi=>XP,show(hi-lo).toNat=m by omega,Int.zero_add,Int.add_zero]
 exact ay fun i hi=>by rw[XQ]; congr 1; omega
def count_le{L q:Int}{W:Nat}(h1:L-1<=q)(h2:q<L+W):aY W (fun i=>if L+i<=q then 1 else 0)=q-L+1:=by
 have:=kI (B:=L) (lo:=L) (hi:=q+1) (H:=W) (fun _=>1) (by omega) (by omega) (by omega)
 rw[qd] at this;rw[ay (g:=fun j=>if L<=L+j/\L+j<q+1 then(1:Int) else 0) fun i _=>?_,this]
 omega
 by_cases h:L+(i:Int)<=q
 rw[U5 h,XQ]
 rw[U3 h,XP]
def IZ{L q:Int}{W:Nat}(h1:L<=q)(h2:q<=L+W):aY W (fun i=>if q<=L+i then 1 else 0)=L+W-q:=by
 have:=kI (B:=L) (lo:=q) (hi:=L+W) (H:=W) (fun _=>1) (by omega) (by omega) (by omega)
 rw[qd] at this;rw[ay (g:=fun j=>if q<=L+j/\L+j<L+W then(1:Int) else 0) fun i _=>?_,this]
 omega
 by_cases h:q<=L+(i:Int)
 rw[U5 h,XQ]
 rw[U3 h,XP]
def bx(L B:Int)(W H:Nat)(f:I2->Int):Int:=aY W fun i=>aY H fun j=>f (L+i,B+j)
structure Inb(L B:Int)(W H:Nat)(p:I2):Prop where
 x1:L<=p.1
 x2:p.1<L+W
 y1:B<=p.2
 y2:p.2<B+H
section
variable{L B:Int}{W H:Nat}
def BR{f g:I2->Int}(h:∀p,Inb L B W H p->f p=g p):bx L B W H f=bx L B W H g :=
 ay fun i hi=>ay fun j hj=>h _ ⟨by dsimp only; omega,by dsimp only; omega,by dsimp only; omega,by dsimp only; omega⟩
def Aa(f g:I2->Int):bx L B W H (fun p=>f p+g p)=bx L B W H f+bx L B W H g:=by
 unfold bx;rw[<-iR];exact ay fun i _=>iR _ _ _
def y6(f:I2->Int):bx L B W H (fun p=>-f p) = -bx L B W H f:=by
 unfold bx;rw[<-qV];exact ay fun i _=>qV _ _
def Ou(c:Int)(f:I2->Int):bx L B W H (fun p=>c*f p)=c*bx L B W H f:=by
 unfold bx;rw[<-lH];exact ay fun i _=>lH _ _ _
def PW(n:Nat)(f:Nat->I2->Int):bx L B W H (fun p=>aY n fun k=>f k p)=aY n fun k=>bx L B W H (f k):=by
 unfold bx;rw[sd n W];exact ay fun i _=>sd _ _ _
def Jg{v:I2}(h:Inb L B W H v):bx L B W H (fun p=>if p=v then 1 else 0)=1:=by
 obtain⟨a,b,c,d⟩:=h;unfold bx;rw[dF (k:=(v.1-L).toNat) (by omega) fun i hi hne=>bw fun j hj=>U3 fun e=>hne (by have:=Vs Prod.fst e; dsimp only at this; omega)]
 rw[dF (k:=(v.2-B).toNat) (by omega) fun j hj hne=>U3 fun e=>hne (by have:=Vs Prod.snd e; dsimp only at this; omega)]
 exact U5 (VN (by dsimp only; omega) (by dsimp only; omega))
def N5{D c:Int}(hD:0<D):∃q:Int,D*q<c/\c<=D*(q+1):=by
 refine⟨(c-1)/D,?_,?_⟩
 have:=Int.mul_ediv_self_le (x:=c-1) (k:=D) (by omega)
 omega
 have:=Int.lt_mul_ediv_self_add (x:=c-1) (k:=D) hD;rw[Xu];omega
def xI{D x y:Int}(hD:0<D):D*x<D*y↔x<y:=⟨fun h=>Int.lt_of_mul_lt_mul_left h (WU hD),fun h=>Int.mul_lt_mul_of_pos_left h hD⟩
def jD{D x y:Int}(hD:0<D):D*x<=D*y↔x<=y:=⟨fun h=>Int.le_of_mul_le_mul_left h hD,fun h=>We h (WU hD)⟩
def EF{a b:I2}(ha:Inb L B W H a)(hb:Inb L B W H b)(h:a.2<b.2):bx L B W H (fun p=>wi a b p+wj a b p)=(b.2-a.2)*(a.1+b.1-(2*L+W-1)):=by
 obtain⟨ax1,ax2,ay1,ay2⟩:=ha;obtain⟨bx1,bx2,by1,by2⟩:=hb;have hD:0<b.2-a.2:=by omega
 let c:Int->Int:=fun y=>(b.1-a.1)*(y-a.2)+(b.2-a.2)*a.1
 have hti:∀x y:Int,ti a b (x,y)=c y-(b.2-a.2)*x:=fun x y=>by show _=(b.1-a.1)*(y-a.2)+(b.2-a.2)*a.1-(b.2-a.2)*x; unfold ti; grind
 have hcr:∀y,c y+c (a.2+b.2-y)=(b.2-a.2)*(a.1+b.1):=fun y=>by show(b.1-a.1)*(y-a.2)+(b.2-a.2)*a.1+((b.1-a.1)*(a.2+b.2-y-a.2)+(b.2-a.2)*a.1)=_; grind
 have hlo:∀y,a.2<=y->y<=b.2->(b.2-a.2)*L<=c y:=fun y h1 h2=>by
  have e:c y=(b.2-y)*a.1+(y-a.2)*b.1:=by show(b.1-a.1)*(y-a.2)+(b.2-a.2)*a.1=_; grind
  have e1:=We ax1 (show 0<=b.2-y by omega)
  have e2:=We bx1 (show 0<=y-a.2 by omega)
  have e3:(b.2-a.2)*L=(b.2-y)*L+(y-a.2)*L:=by grind
  omega
 have hhi:∀y,a.2<=y->y<=b.2->c y<=(b.2-a.2)*(L+W-1):=fun y h1 h2=>by
  have e:c y=(b.2-y)*a.1+(y-a.2)*b.1:=by show(b.1-a.1)*(y-a.2)+(b.2-a.2)*a.1=_; grind
  have e1:=We (show a.1<=L+W-1 by omega) (show 0<=b.2-y by omega)
  have e2:=We (show b.1<=L+W-1 by omega) (show 0<=y-a.2 by omega)
  have e3:(b.2-a.2)*(L+W-1)=(b.2-y)*(L+W-1)+(y-a.2)*(L+W-1):=by grind
  omega
 have hS:a.1+b.1=a.1+b.1:=rfl
 let F:Int->Int:=fun y=>aY W fun i=>if 0<ti a b (L+i,y) then 1 else 0
 let G:Int->Int:=fun y=>aY W fun i=>if ti a b (L+i,y)<0 then 1 else 0
 have hFG:∀y,a.2<=y->y<b.2->F y-G (a.2+b.2-y)=a.1+b.1-(2*L+W-1):=fun y h1 h2=>by
  obtain⟨q,q1,q2⟩:=N5 (c:=c y) hD;have l1:=hlo y h1 (by omega)
  have l2:=hhi y h1 (by omega)
  have l3:=hlo (a.2+b.2-y) (by omega) (by omega)
  have l4:=hhi (a.2+b.2-y) (by omega) (by omega)
  have hc:=hcr y;have g1:L<=q+1:=(jD hD).1 (Int.le_trans l1 q2);have g2:q<L+W-1:=(xI hD).1 (Int.lt_of_lt_of_le q1 l2);have d1:(b.2-a.2)*(a.1+b.1-q)=(b.2-a.2)*(a.1+b.1)-(b.2-a.2)*q:=by grind
  have d2:(b.2-a.2)*(a.1+b.1-(q+1))=(b.2-a.2)*(a.1+b.1)-(b.2-a.2)*(q+1):=by grind
  have g3:L<a.1+b.1-q:=(xI hD).1 (by omega)
  have g4:a.1+b.1-(q+1)<=L+W-1:=(jD hD).1 (by omega)
  have eF:F y=q-L+1:=by
   rw[<-count_le (L:=L) (q:=q) (W:=W) (by omega) (by omega)]
   refine ay fun i _=>?_;rw[hti]
   by_cases k:L+(i:Int)<=q
   have:=(jD hD).2 k;rw[U5 k,XQ]
   have:=(jD hD).2 (show q+1<=L+(i:Int) by omega)
   rw[U3 k,XP]
  have eG:G (a.2+b.2-y)=L+W-(a.1+b.1-q):=by
   rw[<-IZ (L:=L) (q:=a.1+b.1-q) (W:=W) (by omega) (by omega)]
   refine ay fun i _=>?_;rw[hti]
   by_cases k:a.1+b.1-q<=L+(i:Int)
   have:=(jD hD).2 k;rw[U5 k,XQ]
   have:=(jD hD).2 (show L+(i:Int)<=a.1+b.1-(q+1) by omega)
   rw[U3 k,XP]
  rw[eF,eG]; omega
 have e:bx L B W H (fun p=>wi a b p+wj a b p)=aY H (fun j=>if a.2<=B+j/\B+j<b.2 then F (B+j) else 0)-aY H (fun j=>if a.2+1<=B+j/\B+j<b.2+1 then G (B+j) else 0):=by
  unfold bx;rw[sd,<-fU];refine ay fun j _=>?_;rw[iR];have e1:aY W (fun i=>wi a b (L+i,B+j))=if a.2<=B+j/\B+j<b.2 then F (B+j) else 0:=by
   by_cases k:a.2<=B+(j:Int)/\B+(j:Int)<b.2
   rw[U5 k];refine ay fun i _=>?_;unfold wi
   dsimp only
   by_cases k2:0<ti a b (L+i,B+j)
   rw[XQ,U5 k2]
   rw[XP,XP,U3 k2]
   rw[U3 k];refine bw fun i _=>?_;unfold wi
   dsimp only
   rw[XP,XP]
  have e2:aY W (fun i=>wj a b (L+i,B+j)) = -(if a.2+1<=B+j/\B+j<b.2+1 then G (B+j) else 0):=by
   by_cases k:a.2+1<=B+(j:Int)/\B+(j:Int)<b.2+1
   rw[U5 k]
   show _ = -aY W fun i=>if ti a b (L+i,B+j)<0 then 1 else 0
   rw[<-qV];refine ay fun i _=>?_;unfold wj
   dsimp only
   by_cases k2:ti a b (L+i,B+j)<0
   rw[XQ,U5 k2]
   rw[XP,XP,U3 k2]; rfl
   rw[U3 k];refine bw fun i _=>?_;unfold wj
   dsimp only
   rw[XP,XP]
  rw[e1,e2]; omega
 rw[e,kI F ay1 (by omega) (by omega),kI G (by omega) (by omega) (by omega),show b.2+1-(a.2+1)=b.2-a.2 by omega]
 obtain⟨D,hDn⟩:∃D:Nat,b.2=a.2+D:=⟨(b.2-a.2).toNat,by omega⟩
 rw[show(b.2-a.2).toNat=D by omega,<-Hq D fun k=>G (a.2+1+k),<-fU]
 rw[ay (g:=fun _=>a.1+b.1-(2*L+W-1)) fun k hk=>?_,qd]
 rw[show b.2-a.2=(D:Int) by omega]
 have:=hFG (a.2+k) (by omega) (by omega)
 rw[<-this]
 congr 2
 omega
def LS(a b p:I2):wj b a p = -wj a b p:=by rw[<-C2,<-C2,pc]
def Jp{a b:I2}(ha:Inb L B W H a)(hb:Inb L B W H b):bx L B W H (fun p=>wi a b p+wj a b p)=(b.2-a.2)*(a.1+b.1-(2*L+W-1)):=by
 rcases W4 a.2 b.2 with h|h|h
 exact EF ha hb h
 rw[h,Int.sub_self,Int.zero_mul];refine bw fun i _=>bw fun j _=>?_;unfold wi wj
 dsimp only
 rw[XP,XP,XP,XP]; rfl
 have:=EF hb ha h;have e:bx L B W H (fun p=>wi a b p+wj a b p) = -bx L B W H (fun p=>wi b a p+wj b a p):=by
  rw[<-y6];exact BR fun p _=>by rw[pc a b,LS a b]; omega
 rw[e,this]; grind
def qK{r:YB I2}(h:∀i,Inb L B W H (nx r i)):bx L B W H (fun p=>cJ r p+fu r p)=fw r:=by
 have e:bx L B W H (fun p=>cJ r p+fu r p)=aY r.length fun i=>bx L B W H fun p=>wi (nx r i) (nx r (i+1)) p+wj (nx r i) (nx r (i+1)) p:=by
  rw[<-PW];exact BR fun p _=>(iR _ _ _).symm
 rw[e,ay fun i _=>Jp (h i) (h (i+1))];have t:=j4 r.length fun i=>(nx r i).1*(nx r i).2-(2*L+W-1)*(nx r i).2;rw[lN,Int.sub_self] at t;have t2:=iR r.length (fun i=>(nx r i).1*(nx r (i+1)).2-(nx r i).2*(nx r (i+1)).1) fun i=>((nx r (i+1)).1*(nx r (i+1)).2-(2*L+W-1)*(nx r (i+1)).2)-((nx r i).1*(nx r i).2-(2*L+W-1)*(nx r i).2);rw[t,Int.add_zero] at t2;unfold fw;rw[<-t2];exact ay fun i _=>by grind
end
structure Steps(a b:I2)(g:Nat)(u w s t:Int):Prop where
 g0:0<g
 x:b.1-a.1=g*u
 y:b.2-a.2=g*w
 one:s*u+t*w=1
section
variable{a b:I2}{g:Nat}{u w s t:Int}
end
section
variable{L B:Int}{W H:Nat}
def Inb.pO{a b p:I2}(ha:Inb L B W H a)(hb:Inb L B W H b)(h:cD a b p):Inb L B W H p:=by
 obtain⟨_,h1,h2,h3,h4⟩:=h;obtain⟨a1,a2,a3,a4⟩:=ha;obtain⟨b1,b2,b3,b4⟩:=hb;exact⟨by omega,by omega,by omega,by omega⟩
end
def PL{a b p:I2}(h:cD a b p)(ha:p≠a)(hb:p≠b):up p a+up p b=1:=by
 obtain⟨h0,h1,h2,h3,h4⟩:=h;have ha':¬(p.1=a.1/\p.2=a.2):=fun k=>ha (VN k.1 k.2);have hb':¬(p.1=b.1/\p.2=b.2):=fun k=>hb (VN k.1 k.2)
 by_cases e1:a.2=p.2
 by_cases e2:b.2=p.2
 unfold up
 by_cases k:a.1<p.1
 rw[XQ,XP]; rfl
 rw[XP,XQ]; rfl
 rw[uS e1] at h0;rcases Wp.1 h0 with k|k<;>omega
 by_cases e2:b.2=p.2
 rw[xA e2] at h0;rcases Wp.1 h0 with k|k<;>omega
 unfold up
 by_cases k:p.2<a.2
 rw[XQ,XP]; rfl
 rw[XP,XQ]; rfl
section
variable{r:YB I2}
def kz{n:Nat}{f:Nat->Int}(h:∀i,i<n->f i<=0):aY n f<=0:=by
 induction n with
 | zero=>simp[aY]
 | succ n ih =>
  have h1:=ih fun i hi=>h i (by omega)
  have h2:=h n (by omega)
  simp only[aY]; omega
end
def VR.P0{r:YB I2}(h:VR r):fw r≠0:=by
 intro h0;have hne:r≠[]:=h.ne_nil;have h2:VR (r.map (bK 2)):=(jw (s:=2) (by decide)).vr h
 have hl:(r.map (bK 2)).length=r.length:=Vf _;obtain⟨s,hs,g⟩:=h2.sign;have g:Sg (r.map (bK 2)) s:=g;have ea:∀i,nx (r.map (bK 2)) i=bK 2 (nx r i):=bh _ hne;have har:fw (r.map (bK 2))=0:=by
  unfold fw at h0 ⊢;rw[hl,ay (g:=fun i=>4*((nx r i).1*(nx r (i+1)).2-(nx r i).2*(nx r (i+1)).1)) fun i _=>by rw[ea,ea]; unfold bK; grind]
  rw[lH,h0,WT]
 generalize hr2:r.map (bK 2)=r2 at *;obtain⟨p,hp,hpa,hpb⟩:∃p,cD (nx r2 0) (nx r2 (0+1)) p/\p≠nx r2 0/\p≠nx r2 (0+1):=by
  refine⟨((nx r 0).1+(nx r (0+1)).1,(nx r 0).2+(nx r (0+1)).2),?_,?_,?_⟩
  rw[ea,ea];unfold cD ti bK;refine⟨by grind,?_⟩
  dsimp only
  omega
  rw[ea];intro e;have e1:=Vs Prod.fst e;have e2:=Vs Prod.snd e;unfold bK at e1 e2
  dsimp only at e1 e2
  exact h.still 0 (VN (by omega) (by omega))
  rw[ea];intro e;have e1:=Vs Prod.fst e;have e2:=Vs Prod.snd e;unfold bK at e1 e2
  dsimp only at e1 e2
  exact h.still 0 (VN (by omega) (by omega))
 have h3:=h2.n3;have hk:∀k,p≠nx r2 k:=by
  intro k e;have hm:k%r2.length<r2.length:=VM _ (by omega)
  have e':p=nx r2 (k%r2.length):=by rw[e]; exact jh r2 (Nat.mod_mod _ _).symm
  rw[e'] at hp hpa hpb;rcases h2.rp hm (by omega) hp with c|c
  exact hpa (by rw[<-c])
  have:=Ii hm;rw[<-c] at this;exact hpb this.symm
 have hd:=EE r2 p;rw[dF (k:=0) (by omega) fun j hj hne=>by unfold N8; exact U3 fun c=>hne (h2.CS hj (by omega) hk c hp)] at hd
 unfold N8 at hd;rw[U5 hp] at hd;have hu:=PL hp (hk _) (hk _);have a1:=Ra p (nx r2 0);have w1:=g.CD h2 p;have w2:=g.Hf h2 p;obtain⟨K,K0,hK⟩:=(Lg.all (n:=r2.length) (P:=fun i K=>-K<(nx r2 i).1/\(nx r2 i).1<K/\-K<(nx r2 i).2/\(nx r2 i).2<K) fun i _ =>
  (Lg.ge (max (max (nx r2 i).1 (-(nx r2 i).1)) (max (nx r2 i).2 (-(nx r2 i).2))+1)).imp fun K h=>by omega).get
 have hb:∀i,Inb (-K) (-K) (2*K).toNat (2*K).toNat (nx r2 i):=fun i=>by
  have:=hK (i%r2.length) (VM _ (by omega))
  rw[jh r2 (Nat.mod_mod i r2.length)] at this;exact⟨by omega,by omega,by omega,by omega⟩
 have e:=qK hb;rw[har] at e;have hle:bx (-K) (-K) (2*K).toNat (2*K).toNat (fun q=>(if q=p then 1 else 0) + -(s*(Jd.cJ r2 q+fu r2 q)))<=0:=kz fun i _=>kz fun j _=>by
  have a:=g.CD h2 (-K+i,-K+j);have b:=g.Hf h2 (-K+i,-K+j)
  dsimp only
  split
  rename_i c;rw[c];rcases hs with rfl|rfl<;>omega
  rcases hs with rfl|rfl<;>omega
 rw[Aa (fun q=>if q=p then 1 else 0),Jg ((hb 0).pO (hb (0+1)) hp),y6,Ou,e] at hle
 omega
end Jd
end
section
namespace Go.Proofs.Ytmndpgfbkicndaa
open Go Go.Ab Go.Ab.W Go.Ab.B Jd
structure Fcs(pts:YB I2)(F:YB Fc):Prop where
 len:3<=pts.length/\pts.length<=120
 rv:1<=F.length/\F.length<=64
 near:iW pts
 one:∀i,i<pts.length->nx pts i∉pts.take i
 ok:SY pts F
 va:∀f∈F,QF pts f=true
 tu:∀f∈F,Ol pts f=true
def qf{p:Fc->Bool}{F:YB Fc}(h:cm (jb p F) (.inr ()) F.length 0=.inr ()):∀f∈F,p f=true:=by
 intro f hf;obtain⟨j,hj,e⟩:=Vz.1 hf;have:=ly (f:=jb p F) (fun j r hr=>by
  unfold jb at hr
  split at hr
  split at hr
  cases hr
  cases hr; intro c; cases c
  cases hr) h j hj
 unfold jb at this;rw[U4 hj,e] at this
 dsimp only at this
 refine U6 fun hc=>?_;rw[U3 hc] at this; cases this
def I8{f:Nat->YA (Int⊕YC)}(hf:∀j r,f j=some (.inl r)->0<=r){k:Nat}{v:Int}(h:cm f (.inr ()) k 0=.inl v):0<=v:=by
 rcases dw (f:=f) (e:=.inr ()) k 0 with⟨h1,h2⟩|⟨j,_,h2,h3⟩
 rw[h2] at h; cases h
 rw[h] at h3; exact hf j v h3
def sD{p:Fc->Bool}{F:YB Fc}{v:Int}(h:cm (jb p F) (.inr ()) F.length 0=.inl v):0<=v:=I8 (fun j r hr=>by
 unfold jb at hr
 split at hr
 split at hr
 cases hr
 have:=U9 hr;have:=Sum.inl.inj this;omega
 cases hr) h
def MD{pts:YB I2}(h0:0<pts.length)(h:cm (mS pts) (.inr ()) pts.length 0=.inr ()):iW pts:=by
 intro q hq;obtain⟨j,hj,e⟩:=Vz.1 hq;have:=CM h0 h j;unfold nx at this;rw[WA hj,U7,U4 hj,e] at this;exact this
def GP{pts:YB I2}{f:Fc}(h:QF pts f=true):∀r∈f.1::f.2,fw (dP pts r 1)≠0:=fun r hr =>
 VR.P0 (tO.1 (of_decide_eq_true (Vo.1 h r hr))).vr
def Mz{pts:YB I2}(h:cm (pZ pts) (.inr ()) pts.length 0=.inr ()):∀i,i<pts.length->nx pts i∉pts.take i:=fun i hi hc=>by
 have:=ly (f:=pZ pts) (fun j r hr=>by
  unfold pZ at hr
  split at hr
  cases hr; intro c; cases c
  cases hr) h i hi
 unfold pZ at this;rw[U5 hc] at this; cases this
abbrev Ed:=XC
def acc{α:Type}(g:Nat->YB α):Nat->YB α
 | 0=>[]
 | k+1=>acc g k++g k
def kL{α:Type}{g:Nat->YB α}{b:Nat}:∀{k:Nat},(∀i,i<k->(g i).length<=b)->(acc g k).length<=k*b
 | 0,_=>by simp[acc]
 | k+1,h=>by
  have h1:=kL (k:=k) fun i hi=>h i (by omega)
  have h2:=h k (by omega)
  rw[acc,Vd,V2]; omega
def ie(l:YB Int)(f r i:Nat):Ed:=(l.getD i 0,l.getD ((i+1)%l.length) 0,(f:Int),(r:Int))
def rE(l:YB Int)(f r:Nat):YB Ed:=acc (fun i=>[ie l f r i]) l.length
def fE(rs:XE)(f:Nat):YB Ed:=acc (fun r=>rE (rs.getD r []) f r) rs.length
def ak(F:YB Fc)(f:Nat):XE:=(F.getD f ([],[])).1::(F.getD f ([],[])).2
def sE(F:YB Fc):YB Ed:=acc (fun f=>fE (ak F f) f) F.length
def Ib{l:YB Int}{f r:Nat}:(rE l f r).length<=l.length:=by
 have:=kL (g:=fun i=>[ie l f r i]) (b:=1) (k:=l.length) fun i _=>by simp
 unfold rE; omega
section
variable{pts:YB I2}{F:YB Fc}(n:Nat)
end
def Cr(pts:YB I2)(e:Ed):Prop:=(0<=e.1/\e.1<pts.length)/\(0<=e.2.1/\e.2.1<pts.length)/\fb pts e.1≠fb pts e.2.1
def nY(e f:Ed):Bool:=(decide (e.1=f.1)&&decide (e.2.1=f.2.1)) ||(decide (e.1=f.2.1)&&decide (e.2.1=f.1))
noncomputable def gX (pts:YB I2) (e f:Ed):Bool :=
 if nY e f then false
 else if k5 (fb pts e.1) (fb pts e.2.1) (fb pts f.1) (fb pts f.2.1)=1 then !decide (e.1=f.1) &&(!decide (e.1=f.2.1) &&(!decide (e.2.1=f.1) && !decide (e.2.1=f.2.1)))
 else !decide (k5 (fb pts e.1) (fb pts e.2.1) (fb pts f.1) (fb pts f.2.1)=0)
def Ms(e f:Ed):(br (decide (e.1=f.1)) (br (decide (e.2.1=f.2.1)) (some true) (br (decide (e.1=f.2.1)) (some (decide (e.2.1=f.1))) (some false))) (br (decide (e.1=f.2.1)) (some (decide (e.2.1=f.1))) (some false)))=some (nY e f):=by
 unfold nY;cases decide (e.1=f.1)<;>cases decide (e.2.1=f.2.1)<;>cases decide (e.1=f.2.1)<;>cases decide (e.2.1=f.1)<;>rfl
def AR{pts:YB I2}{i:Int}(h:0<=i/\i<pts.length):cM i pts.length=true:=Vc ⟨h.1,by omega⟩
def LZ(e f:Ed):(br (!decide (e.1=f.1)) (br (!decide (e.1=f.2.1)) (br (!decide (e.2.1=f.1)) (some (!decide (e.2.1=f.2.1))) (some false)) (some false)) (some false))=some (!decide (e.1=f.1) &&(!decide (e.1=f.2.1) &&(!decide (e.2.1=f.1) && !decide (e.2.1=f.2.1)))):=by
 cases decide (e.1=f.1)<;>cases decide (e.1=f.2.1)<;>cases decide (e.2.1=f.1)<;>rfl
section
variable{pts:YB I2}{F:YB Fc}(n:Nat)
def Oi(hb:iW pts){e f:Ed}(he:Cr pts e)(hf:Cr pts f)(hn:1000<n):Sc n pts F e.1 e.2.1 e.2.2.1 e.2.2.2 f.1 f.2.1 f.2.2.1 f.2.2.2=some (gX pts e f):=by
 obtain⟨a1,a2,a3⟩:=he;obtain⟨b1,b2,b3⟩:=hf;have i6:∀{p:I2},Nr p->ru p.1/\ru p.2:=fun{p} h=>by
  unfold Nr at h; unfold ru; omega
 have nf:∀{p:I2},Nr p->¬Fa p:=fun{p} h=>by
  unfold Nr at h; unfold Fa; omega
 have c1:=mO hb a1;have c2:=mO hb a2;have c3:=mO hb b1;have c4:=mO hb b2;unfold Sc gX;rw[Ms,aj];cases nY e f
 ·rw[ib,AR a1,bf,pP a1,aj]
  try dsimp only
  rw[AR a2,bf,pP a2,aj]
  try dsimp only
  rw[AR b1,bf,pP b1,aj]
  try dsimp only
  rw[AR b2,bf,pP b2,aj]
  try dsimp only
  rw[PV n (i6 c1) (i6 c2) (i6 c3) (i6 c4) (by omega),U3 (by
   rintro(h|h|h|h|h|h)
   exact nf c1 h
   exact nf c2 h
   exact nf c3 h
   exact nf c4 h
   exact a3 h
   exact b3 h),aj]
  try dsimp only
  rw[LZ,U3 (by decide)]
  by_cases h:k5 (fb pts e.1) (fb pts e.2.1) (fb pts f.1) (fb pts f.2.1)=0
  rw[aH h,XP,h]; rfl
  rw[aF h]
  by_cases g:k5 (fb pts e.1) (fb pts e.2.1) (fb pts f.1) (fb pts f.2.1)=1
  rw[aH g,U5 g]
  rw[aF g,U3 g,Vj h]; rfl
 rfl
end
def bI(P:YB Ed->Ed->Bool):YB Ed->YB Ed->YA Int
 | _,[]=>none
 | d,e::es=>if P d e then some e.2.2.1 else bI P (d++[e]) es
def lp{P:YB Ed->Ed->Bool}:∀(a b d:YB Ed),bI P d (a++b)=match bI P d a with|some v=>some v|none=>bI P (d++a) b
 | [],b,d=>by simp[bI]
 | e::a,b,d=>by
  rw[WY,bI,bI]
  by_cases h:P d e=true
  rw[U5 h,U5 h]
  rw[U3 h,U3 h,lp a b (d++[e]),VT]; rfl
def B1(d:YB Ed)(e:Ed):Bool:=d.any fun x=>decide (e.1=x.1)&&decide (e.2.1=x.2.1)
noncomputable def Af (pts:YB I2) (d:YB Ed) (e:Ed):Bool:=d.any fun x=>gX pts e x
section
variable{pts:YB I2}{F:YB Fc}(n:Nat)
end
def yH{P:YB Ed->Ed->Bool}{g:Nat->YB Ed}{d:YB Ed}{v:Int}{i:Nat}(h:bI P d (acc g i)=some v):∀k,bI P d (acc g (i+k))=some v
 | 0=>h
 | k+1=>by
  rw[<-Nat.add_assoc,acc,lp,yH h k]
def qb{σ τ:Type}{B:(Int×σ)->YA ((Int×σ)⊕τ⊕σ)}{len:Nat}{P:YB Ed->Ed->Bool}{g:Nat->YB Ed}{d:YB Ed}(R:YB Ed->σ->Prop)(Q:τ->Int->Prop)
  (hB:∀i s,i<len->R (d++acc g i) s->(∃v t,bI P (d++acc g i) (g i)=some v/\B ((i:Int),s)=some (.inr (.inl t))/\Q t v) \/
   (bI P (d++acc g i) (g i)=none/\∃s',B ((i:Int),s)=some (.inl (((i+1:Nat):Int),s'))/\R (d++acc g i++g i) s'))
  (hE:∀s,R (d++acc g len) s->B ((len:Int),s)=some (.inr (.inr s))) :
  ∀(k i n:Nat) (s:σ),i+k=len->k<n->bI P d (acc g i)=none->R (d++acc g i) s ->
   (∃v t,bI P d (acc g len)=some v/\bL B n ((i:Int),s)=some (.inl t)/\Q t v)\/(bI P d (acc g len)=none/\∃s',bL B n ((i:Int),s)=some (.inr s')/\R (d++acc g len) s')
 | 0,i,n+1,s,h,_,h0,hr=>by
  rw[Wf] at h; subst h;exact .inr ⟨h0,s,fG (hE s hr),hr⟩
 | k+1,i,n+1,s,h,hn,h0,hr=>by
  rcases hB i s (by omega) hr with⟨v,t,h1,h2,h3⟩|⟨h1,s',h2,h3⟩
  refine .inl ⟨v,t,?_,fG h2,h3⟩;have:bI P d (acc g (i+1))=some v:=by rw[acc,lp,h0]; exact h1
  have:=yH this k;rw[show i+1+k=len by omega] at this
  exact this
  rw[fy h2];exact qb R Q hB hE k (i+1) n s' (by omega) (by omega) (by rw[acc,lp,h0]; exact h1) (by rw[acc,<-VT]; exact h3)
def qI{l:YB Int}{i:Nat}(hi:i<l.length):l[((i:Nat):Int).toNat]? = some (l.getD i 0)/\l[(((i+1)%l.length:Nat):Int).toNat]? = some (l.getD ((i+1)%l.length) 0):=by
 have hi2:(i+1)%l.length<l.length:=VM _ (by omega)
 exact⟨by rw[VH,U7,U4 hi]; rfl,by rw[VH,U7,U4 hi2]; rfl⟩
def pK(d:YB Ed)(m:YB ((Int×Int)×Bool)):Prop:=∀p:Int×Int,(bR m p).getD false=d.any fun x=>decide (p.1=x.1)&&decide (p.2=x.2.1)
def FM{d:YB Ed}{m:YB ((Int×Int)×Bool)}(h:pK d m)(e:Ed):pK (d++[e]) (fX m (e.1,e.2.1) true):=by
 intro p;rw[dJ,List.any_append]
 by_cases hp:p=(e.1,e.2.1)
 rw[U5 hp,hp]; simp
 rw[U3 hp,h p];have:(decide (p.1=e.1)&&decide (p.2=e.2.1))=false:=by
  rw[<-V5,Vj];exact fun c=>hp (VN c.1 c.2)
 simp only[List.any_cons,List.any_nil,Bool.or_false,this]
section
variable{pts:YB I2}{F:YB Fc}(n:Nat)
def IJ{l:YB Int}{f r:Nat}{d:YB Ed}{m:YB ((Int×Int)×Bool)}(hm:pK d m)(hl:l.length<=40)(hn:1000<n) :
  (∃v t,bI B1 d (rE l f r)=some v/\bL (sP n l) n (0,m)=some (.inl t)/\v=(f:Int))\/(bI B1 d (rE l f r)=none/\∃s',bL (sP n l) n (0,m)=some (.inr s')/\pK (d++rE l f r) s'):=by
 refine qb (B:=sP n l) (len:=l.length) (P:=B1) (g:=fun i=>[ie l f r i]) (d:=d) pK (fun _ v=>v=(f:Int)) (fun i s hi hs=>?_) (fun s hs=>?_) l.length 0 n m (by omega) (by omega) rfl (by rw[acc,VX]; exact hm)
 ·obtain⟨e1,e2⟩:=qI hi;have hi2:(i+1)%l.length<l.length:=VM _ (by omega)
  have hk:=hs (l.getD i 0,l.getD ((i+1)%l.length) 0);have hB:sP n l ((i:Int),s)=if B1 (d++acc (fun i=>[ie l f r i]) i) (ie l f r i) then some (.inr (.inl s)) else some (.inl (((i+1:Nat):Int),fX s (l.getD i 0,l.getD ((i+1)%l.length) 0) true)):=by
   unfold sP
   try dsimp only
   rw[aH (by omega)]
   simp only[aC hi,bf,e1,aj,aw (show i<4611686018427387904 by omega)]
   rw[fT (by omega)]
   simp only[gZ,aC hi2,bf,e2,aj];rw[hk]
   show ob (br (B1 (d++acc (fun i=>[ie l f r i]) i) (ie l f r i)) _ _) _=_
   cases B1 (d++acc (fun i=>[ie l f r i]) i) (ie l f r i)<;>rfl
  by_cases c:B1 (d++acc (fun i=>[ie l f r i]) i) (ie l f r i)=true
  rw[U5 c] at hB;exact .inl ⟨(f:Int),s,by rw[bI,U5 c]; rfl,hB,rfl⟩
  rw[U3 c] at hB;exact .inr ⟨by rw[bI,U3 c,bI],_,hB,FM hs (ie l f r i)⟩
 ·unfold sP
  try dsimp only
  rw[aF (by omega)]
end
section
variable{pts:YB I2}{F:YB Fc}(n:Nat)
def Hw{rs:XE}{f:Nat}{d:YB Ed}{m:YB ((Int×Int)×Bool)}(hm:pK d m)(h9:rs.length<=9)(h40:∀r,(rs.getD r []).length<=40)(hn:1000<n) :
  (∃v t,bI B1 d (fE rs f)=some v/\bL (sK n rs) n (0,m)=some (.inl t)/\v=(f:Int))\/(bI B1 d (fE rs f)=none/\∃s',bL (sK n rs) n (0,m)=some (.inr s')/\pK (d++fE rs f) s'):=by
 refine qb (B:=sK n rs) (len:=rs.length) (P:=B1) (g:=fun r=>rE (rs.getD r []) f r) (d:=d) pK (fun _ v=>v=(f:Int)) (fun i s hi hs=>?_) (fun s hs=>?_) rs.length 0 n m (by omega) (by omega) rfl (by rw[acc,VX]; exact hm)
 ·have hx:rs[i]? = some (rs.getD i []):=by rw[U7,U4 hi]; rfl
  rcases IJ n (l:=rs.getD i []) (f:=f) (r:=i) hs (h40 i) hn with⟨v,t,h1,h2,h3⟩|⟨h1,s',h2,h3⟩
  ·refine .inl ⟨v,t,h1,?_,h3⟩;unfold sK
   try dsimp only
   rw[aH (by omega),aC hi,bf,bM hx,aj,h2,aj]
  ·refine .inr ⟨h1,s',?_,h3⟩;unfold sK
   try dsimp only
   rw[aH (by omega),aC hi,bf,bM hx,aj,h2,aj,aw (by omega)]
 ·unfold sK
  try dsimp only
  rw[aF (by omega)]
def iG(hv:Fcs pts F)(i:Nat):(ak F i).length<=9/\∀r,((ak F i).getD r []).length<=40:=by
 unfold ak
 by_cases hi:i<F.length
 obtain⟨h8,h9⟩:=rf (hv.ok _ (Vg hi));have e:F.getD i ([],[])=F[i]:=by rw[U7,U4 hi]; rfl
 rw[e];refine⟨by simp; omega,fun r=>?_⟩
 by_cases hr:r<(F[i].1::F[i].2).length
 have:=(ou rfl (h9 _ (Vg hr))).2.2;rw[U7,U4 hr]; exact this
 rw[U7,V8 (by omega)]; simp
 rw[U7,V8 (by omega)]
 refine⟨by simp,fun r=>?_⟩
 cases r<;>simp
def iN{i:Nat}(hi:i<F.length):F[i]? = some (F.getD i ([],[])):=by rw[U7,U4 hi]; rfl
def ml(hv:Fcs pts F){i:Nat}(hn:1000<n):C6 n (F.getD i ([],[])).1 (F.getD i ([],[])).2=some (ak F i):=by
 have h3:=(iG hv i).1;unfold ak at h3;rw[VF] at h3;exact y8 n _ _ (by omega) hn
def HF(hv:Fcs pts F)(hn:1000<n) :
  (∃v t,bI B1 [] (sE F)=some v/\bL (sL n F) n (0,[])=some (.inl t)/\v=t.1)\/(bI B1 [] (sE F)=none/\∃s',bL (sL n F) n (0,[])=some (.inr s')/\pK ([]++sE F) s'):=by
 have hf:=hv.rv;refine qb (B:=sL n F) (len:=F.length) (P:=B1) (g:=fun f=>fE (ak F f) f) (d:=[]) pK (fun t v=>v=t.1) (fun i s hi hs=>?_) (fun s hs=>?_) F.length 0 n [] (by omega) (by omega) rfl (by rw[acc,VX]; intro p; simp[bR,cV])
 ·obtain⟨h9,h40⟩:=iG hv i;rcases Hw n (rs:=ak F i) (f:=i) hs h9 h40 hn with⟨v,t,h1,h2,h3⟩|⟨h1,s',h2,h3⟩
  ·refine .inl ⟨v,((i:Int),t),h1,?_,h3⟩;unfold sL
   try dsimp only
   rw[aH (by omega),aC hi,bf,bM (iN hi),aj]
   try dsimp only
   rw[ml n hv hn,aj,h2,aj]
  ·refine .inr ⟨h1,s',?_,h3⟩;unfold sL
   try dsimp only
   rw[aH (by omega),aC hi,bf,bM (iN hi),aj]
   try dsimp only
   rw[ml n hv hn,aj,h2,aj,aw (by omega)]
 ·unfold sL
  try dsimp only
  rw[aF (by omega)]
end
section
variable{pts:YB I2}{F:YB Fc}(n:Nat)
def I5(hb:iW pts){e:Ed}(he:Cr pts e){d:YB Ed}(hS:∀x∈d,Cr pts x)(hd:d.length<=50000)(hn:99999<n) :
  ∃w,bL (wg n d pts F e.1 e.2.1 e.2.2.1 e.2.2.2) n 0=some w/\(if Af pts d e then ∃j:Nat,w=.inl (j:Int) else w=.inr ()):=by
 have h1:bL (wg n d pts F e.1 e.2.1 e.2.2.1 e.2.2.2) n 0=some (cm (fun j=>match d[j]? with|some x=>if gX pts e x=true then some (.inl (j:Int)) else none|none=>none) (.inr ()) d.length 0):=by
  refine dM (len:=d.length) (fun j hj=>?_) ?_ d.length 0 n (by omega) (by omega)
  ·have hy:=U4 hj;generalize d[j]=x at hy;unfold wg
   try dsimp only
   rw[aH (by omega)]
   simp only[aC hj,bf,bM hy,aj,hy,aw (show j<4611686018427387904 by omega)]
   rw[Oi n hb he (hS x (VD hy)) (by omega),aj,aj]
   cases gX pts e x<;>rfl
  ·unfold wg
   try dsimp only
   rw[aF (by omega)]
 refine⟨_,h1,?_⟩;rcases dw (f:=fun j=>match d[j]? with|some x=>if gX pts e x=true then some (.inl (j:Int)) else none|none=>none) (e:=(.inr ():Int⊕YC)) d.length 0 with⟨g1,g2⟩|⟨j,_,g2,g3⟩
 ·rw[g2,U3];intro h;obtain⟨x,hx,hq⟩:=List.any_eq_true.1 h;obtain⟨j,hj,ej⟩:=Vz.1 hx;have:=g1 j (by omega) (by omega)
  try dsimp only at this
  rw[U4 hj,ej] at this
  try dsimp only at this
  rw[U5 hq] at this;cases this
 ·try dsimp only at g3
  rw[U4 (show j<d.length by omega)] at g3
  try dsimp only at g3
  by_cases g:gX pts e d[j]=true
  rw[U5 g] at g3;have hc:Af pts d e=true:=List.any_eq_true.2 ⟨_,Vg _,g⟩;rw[U5 hc];exact⟨j,(U9 g3).symm⟩
  rw[U3 g] at g3; cases g3
def Jb(hb:iW pts){l:YB Int}{f r:Nat}{d:YB Ed}(hS:∀x∈d,Cr pts x)(hS2:∀i,i<l.length->Cr pts (ie l f r i))(hd:d.length<=45000)(hl:l.length<=40)(hn:99999<n) :
  (∃v t,bI (Af pts) d (rE l f r)=some v/\bL (tp n l pts F (f:Int) (r:Int)) n (0,d)=some (.inl t)/\v=(f:Int))\/(bI (Af pts) d (rE l f r)=none/\∃s',bL (tp n l pts F (f:Int) (r:Int)) n (0,d)=some (.inr s')/\s'=d++rE l f r):=by
 refine qb (B:=tp n l pts F (f:Int) (r:Int)) (len:=l.length) (P:=Af pts) (g:=fun i=>[ie l f r i]) (d:=d) (fun d s=>s=d) (fun _ v=>v=(f:Int)) (fun i s hi hs=>?_) (fun s hs=>?_) l.length 0 n d (by omega) (by omega) rfl (by rw[acc,VX])
 ·subst hs;obtain⟨e1,e2⟩:=qI hi;have hi2:(i+1)%l.length<l.length:=VM _ (by omega)
  have ha:=kL (g:=fun i=>[ie l f r i]) (b:=1) (k:=i) fun i _=>by simp
  have hlen:(d++acc (fun i=>[ie l f r i]) i).length<=50000:=by rw[Vd]; omega
  have hS3:∀x∈d++acc (fun i=>[ie l f r i]) i,Cr pts x:=fun x hx=>by
   rcases Vq.1 hx with h|h
   exact hS x h
   ·have:∀k,k<=i->x∈acc (fun i=>[ie l f r i]) k->Cr pts x:=fun k=>by
     induction k with
     | zero=>intro _ h; cases h
     | succ k ih =>
      intro hk h;rw[acc,Vq,Vb] at h;rcases h with h|h
      exact ih (by omega) h
      rw[h]; exact hS2 k (by omega)
    exact this i (U8 _) h
  generalize hD:d++acc (fun i=>[ie l f r i]) i=D at *;obtain⟨w,h1,h2⟩:=I5 (F:=F) n hb (hS2 i hi) hS3 hlen hn;have h1':bL (wg n D pts F (l.getD i 0) (l.getD ((i+1)%l.length) 0) (f:Int) (r:Int)) n 0=some w:=h1;have hB:tp n l pts F (f:Int) (r:Int) ((i:Int),D)=if Af pts D (ie l f r i) then some (.inr (.inl D)) else some (.inl (((i+1:Nat):Int),D++[ie l f r i])):=by
   unfold tp
   try dsimp only
   rw[aH (by omega)]
   simp only[aC hi,bf,e1,aj,aw (show i<4611686018427387904 by omega)]
   rw[fT (by omega)]
   simp only[gZ,aC hi2,bf,e2,aj];rw[h1',aj]
   by_cases c:Af pts D (ie l f r i)=true
   rw[U5 c] at h2 ⊢;obtain⟨j,rfl⟩:=h2;simp only[aj,aH (show(0:Int)<=(j:Int) by omega)]
   rw[U3 c] at h2 ⊢;subst h2;simp only[aj,aF (show ¬(0:Int)<=-1 by decide)]
   rw[bo (by rw[Vd]; simp; omega),bf]
   rfl
  by_cases c:Af pts D (ie l f r i)=true
  rw[U5 c] at hB;exact .inl ⟨(f:Int),D,by rw[bI,U5 c]; rfl,hB,rfl⟩
  rw[U3 c] at hB;exact .inr ⟨by rw[bI,U3 c,bI],_,hB,rfl⟩
 ·unfold tp
  try dsimp only
  rw[aF (by omega)]
end
def fV{α:Type}{g:Nat->YB α}{x:α}:∀{k:Nat},x∈acc g k->∃i,i<k/\x∈g i
 | 0,h=>by cases h
 | k+1,h=>by
  rw[acc,Vq] at h;rcases h with h|h
  obtain⟨i,hi,hx⟩:=fV h;exact⟨i,by omega,hx⟩
  exact⟨k,by omega,h⟩
section
variable{pts:YB I2}{F:YB Fc}(n:Nat)
def E3(hv:Fcs pts F){f r:Nat}(hf:f<F.length)(hr:r<(ak F f).length):wD pts.length ((ak F f).getD r [])=true/\yo (dP pts ((ak F f).getD r []) 1):=by
 have e:F.getD f ([],[])=F[f]:=by rw[U7,U4 hf]; rfl
 unfold ak at hr ⊢;rw[e] at hr ⊢;have e2:(F[f].1::F[f].2).getD r []=(F[f].1::F[f].2)[r]:=by rw[U7,U4 hr]; rfl
 rw[e2];exact⟨(rf (hv.ok _ (Vg hf))).2 _ (Vg hr),of_decide_eq_true (Vo.1 (hv.va _ (Vg hf)) _ (Vg hr))⟩
def yy{l:YB Int}{i:Nat}(hi:i<l.length):nx (dP pts l 1) i=fb pts (l.getD i 0):=by
 unfold nx dP;rw[Vf,WA hi,U7,VQ,U7,U4 hi];simp
def zH(hv:Fcs pts F){f r i:Nat}(hf:f<F.length)(hr:r<(ak F f).length)(hi:i<((ak F f).getD r []).length):Cr pts (ie ((ak F f).getD r []) f r i):=by
 obtain⟨h1,h2⟩:=E3 hv hf hr;generalize(ak F f).getD r []=l at *;obtain⟨hx,h3,h4⟩:=ou rfl h1;have hi2:(i+1)%l.length<l.length:=VM _ (by omega)
 have gm:∀k,k<l.length->l.getD k 0∈l:=fun k hk=>by
  rw[U7,U4 hk]; exact Vg _
 refine⟨hx _ (gm i hi),hx _ (gm _ hi2),?_⟩;have hs:=(tO.1 h2).vr.still i;rw[yy hi] at hs;have:nx (dP pts l 1) (i+1)=fb pts (l.getD ((i+1)%l.length) 0):=by
  rw[<-yy hi2];exact jh _ (by rw[fW,Nat.mod_mod])
 rw[this] at hs;exact hs
def GR(hv:Fcs pts F){f:Nat}(hf:f<F.length){k:Nat}(hk:k<=(ak F f).length):∀x∈acc (fun r=>rE ((ak F f).getD r []) f r) k,Cr pts x:=fun x hx=>by
 obtain⟨r,hr,h⟩:=fV hx;obtain⟨i,hi,h⟩:=fV h;rw[Vb] at h;rw[h];exact zH hv hf (by omega) hi
def rO(hv:Fcs pts F){k:Nat}(hk:k<=F.length):∀x∈acc (fun f=>fE (ak F f) f) k,Cr pts x:=fun x hx=>by
 obtain⟨f,hf,h⟩:=fV hx;exact GR hv (by omega) (U8 _) x h
def JZ(hv:Fcs pts F){f:Nat}(hf:f<F.length){d:YB Ed}(hS:∀x∈d,Cr pts x)(hd:d.length<=40000)(hn:99999<n) :
  (∃v t,bI (Af pts) d (fE (ak F f) f)=some v/\bL (sV n (ak F f) pts F (f:Int)) n (0,d)=some (.inl t)/\v=(f:Int))\/(bI (Af pts) d (fE (ak F f) f)=none/\∃s',bL (sV n (ak F f) pts F (f:Int)) n (0,d)=some (.inr s')/\s'=d++fE (ak F f) f):=by
 obtain⟨h9,h40⟩:=iG hv f;refine qb (B:=sV n (ak F f) pts F (f:Int)) (len:=(ak F f).length) (P:=Af pts) (g:=fun r=>rE ((ak F f).getD r []) f r) (d:=d) (fun d s=>s=d) (fun _ v=>v=(f:Int)) (fun i s hi hs=>?_) (fun s hs=>?_) (ak F f).length 0 n d (by omega) (by omega) rfl (by rw[acc,VX])
 ·subst hs;have hx:(ak F f)[i]? = some ((ak F f).getD i []):=by rw[U7,U4 hi]; rfl
  have ha:=kL (g:=fun r=>rE ((ak F f).getD r []) f r) (b:=40) (k:=i) fun r _=>VK Ib (h40 r);rcases Jb (F:=F) n hv.near (l:=(ak F f).getD i []) (f:=f) (r:=i) (d:=d++acc (fun r=>rE ((ak F f).getD r []) f r) i) (fun x hx=>(Vq.1 hx).elim (hS x) (GR hv hf (by omega) x)) (fun j hj=>zH hv hf hi hj) (by rw[Vd]; omega) (h40 i) hn with⟨v,t,h1,h2,h3⟩|⟨h1,s',h2,h3⟩
  ·refine .inl ⟨v,t,h1,?_,h3⟩;unfold sV
   try dsimp only
   rw[aH (by omega),aC hi,bf,bM hx,aj,h2,aj]
  ·refine .inr ⟨h1,s',?_,h3⟩;unfold sV
   try dsimp only
   rw[aH (by omega),aC hi,bf,bM hx,aj,h2,aj,aw (by omega)]
 ·unfold sV
  try dsimp only
  rw[aF (by omega)]
def J3(hv:Fcs pts F)(hn:99999<n) :
  (∃v t,bI (Af pts) [] (sE F)=some v/\bL (sX n F pts) n (0,[])=some (.inl t)/\v=t.1)\/(bI (Af pts) [] (sE F)=none/\∃s',bL (sX n F pts) n (0,[])=some (.inr s')/\s'=[]++sE F):=by
 have hfl:=hv.rv;refine qb (B:=sX n F pts) (len:=F.length) (P:=Af pts) (g:=fun f=>fE (ak F f) f) (d:=[]) (fun d s=>s=d) (fun t v=>v=t.1) (fun i s hi hs=>?_) (fun s hs=>?_) F.length 0 n [] (by omega) (by omega) rfl (by rw[acc,VX])
 ·subst hs;have ha:=kL (g:=fun f=>fE (ak F f) f) (b:=360) (k:=i) fun j _=>by
   have h1:=kL (g:=fun r=>rE ((ak F j).getD r []) j r) (b:=40) (k:=(ak F j).length) fun r _=>VK Ib ((iG hv j).2 r);have h2:=(iG hv j).1;unfold fE; omega
  rcases JZ n hv hi (d:=[]++acc (fun f=>fE (ak F f) f) i) (fun x hx=>rO hv (k:=i) (by omega) x (by rwa[Wc] at hx)) (by rw[Wc]; omega) hn with⟨v,t,h1,h2,h3⟩|⟨h1,s',h2,h3⟩
  ·refine .inl ⟨v,((i:Int),t),h1,?_,h3⟩;unfold sX
   try dsimp only
   rw[aH (by omega),aC hi,bf,bM (iN hi),aj]
   try dsimp only
   rw[ml n hv (by omega),aj,h2,aj]
  ·refine .inr ⟨h1,s',?_,h3⟩;unfold sX
   try dsimp only
   rw[aH (by omega),aC hi,bf,bM (iN hi),aj]
   try dsimp only
   rw[ml n hv (by omega),aj,h2,aj,aw (by omega)]
 ·unfold sX
  try dsimp only
  rw[aF (by omega)]
end
def yk(pts:YB I2)(l:YB Int):dP pts l 2=(dP pts l 1).map (bK 2):=by
 unfold dP;rw[Xh];refine List.map_congr_left fun i _=>VN ?_ ?_
 show 2*_=1*_*2; omega
 show 2*_=1*_*2; omega
section
variable{pts:YB I2}{F:YB Fc}(n:Nat)
def OH(hb:iW pts){l:YB Int}(hx:Ix pts l)(h3:3<=l.length)(i:Nat):Nw (nx (dP pts l 2) i):=by
 have hne:dP pts l 1≠[]:=fun e=>by have:=fW pts l 1; rw[e] at this; simp at this; omega
 rw[yk,bh _ hne];have:=J6 hb hx h3 i;unfold Nr at this;unfold Nw bK
 dsimp only
 omega
def pO(pts:YB I2)(e:Ed):I2:=((fb pts e.1).1+(fb pts e.2.1).1,(fb pts e.1).2+(fb pts e.2.1).2)
def KB(hb:iW pts){e:Ed}(he:Cr pts e):Nw (pO pts e):=by
 have h1:=mO hb he.1;have h2:=mO hb he.2.1;unfold Nr at h1 h2;unfold Nw pO
 dsimp only
 omega
def D7(hb:iW pts){l:YB Int}(h:wD pts.length l=true){p:I2}(hp:Nw p)(hn:1000<n):Nq n (dP pts l 2) p.1 p.2=some (side (dP pts l 2) p):=by
 obtain⟨hx,h3,h4⟩:=ou rfl h;exact Ih n (fun i=>OH hb hx h3 i) hp (by rw[fW]; omega) (by rw[fW]; omega)
end
noncomputable def Kl (pts:YB I2) (o:YB Int) (h:XE) (p:I2):Bool:=decide (side (dP pts o 2) p=2)&&h.all fun l=>decide (side (dP pts l 2) p=0)
section
variable{pts:YB I2}{F:YB Fc}(n:Nat)
def Ku(hb:iW pts){o:YB Int}{h:XE}(ho:wD pts.length o=true)(hh:∀l∈h,wD pts.length l=true)(h8:h.length<=8){p:I2}(hp:Nw p)(hn:1000<n):MF n pts F o h p.1 p.2 2=some (Kl pts o h p):=by
 obtain⟨hx,h3,h4⟩:=ou rfl ho;unfold MF Kl;rw[yT n hb hx (.inr rfl) (by omega) (by omega),aj,D7 n hb ho hp hn,aj]
 by_cases c:side (dP pts o 2) p=2
 ·rw[aH c,Vc c,WH];have hl:bL (BO n h pts F 2 p.1 p.2) n 0=some (cm (fun i=>match h[i]? with|some l=>if decide (side (dP pts l 2) p=0)=true then none else some (.inl (i:Int))|none=>none) (.inr ()) h.length 0):=by
   refine dM (len:=h.length) (fun i hi=>?_) ?_ h.length 0 n (by omega) (by omega)
   ·have hy:=U4 hi;generalize h[i]=l at hy;obtain⟨gx,g3,g4⟩:=ou rfl (hh l (VD hy));unfold BO
    try dsimp only
    rw[aH (by omega),aC hi,bf,bM hy,aj,yT n hb gx (.inr rfl) (by omega) (by omega),aj,D7 n hb (hh l (VD hy)) hp hn,aj,aj,aw (by omega),hy]
    try dsimp only
    cases decide (side (dP pts l 2) p=0)<;>rfl
   ·unfold BO
    try dsimp only
    rw[aF (by omega)]
  rw[hl,aj];rcases dw (f:=fun i=>match h[i]? with|some l=>if decide (side (dP pts l 2) p=0)=true then none else some (.inl (i:Int))|none=>none) (e:=(.inr ():Int⊕YC)) h.length 0 with⟨g1,g2⟩|⟨j,_,g2,g3⟩
  ·rw[g2];have:(h.all fun l=>decide (side (dP pts l 2) p=0))=true:=Vo.2 fun l hl=>by
    obtain⟨j,hj,ej⟩:=Vz.1 hl;have:=g1 j (by omega) (by omega)
    try dsimp only at this
    rw[U4 hj,ej] at this
    try dsimp only at this
    refine U6 fun hc=>?_;rw[U3 hc] at this; cases this
   rw[this]; rfl
  ·have hj:j<h.length:=by omega
   try dsimp only at g3
   rw[U4 hj] at g3
   try dsimp only at g3
   by_cases g:decide (side (dP pts h[j] 2) p=0)=true
   rw[U5 g] at g3; cases g3
   rw[U3 g] at g3;have e:=(U9 g3).symm;rw[e];have:(h.all fun l=>decide (side (dP pts l 2) p=0))=false:=by
    cases ha:h.all fun l=>decide (side (dP pts l 2) p=0)
    rfl
    exact Vr (Vo.1 ha _ (Vg hj)) g
   rw[this,aj,Vj (by omega)]
 rw[aF c,Vj c]; rfl
end
def mH{τ:Type}{B:Int->YA (Int⊕τ⊕YC)}{len:Nat}{P:YB Ed->Ed->Bool}{g:Nat->YB Ed}{d:YB Ed}(Q:τ->Int->Prop)
  (hB:∀i:Nat,i<len->(∃v t,bI P (d++acc g i) (g i)=some v/\B (i:Int)=some (.inr (.inl t))/\Q t v)\/(bI P (d++acc g i) (g i)=none/\B (i:Int)=some (.inl ((i+1:Nat):Int))))
  (hE:B (len:Int)=some (.inr (.inr ()))) :
  ∀(k i n:Nat),i+k=len->k<n->bI P d (acc g i)=none ->
   (∃v t,bI P d (acc g len)=some v/\bL B n (i:Int)=some (.inl t)/\Q t v)\/(bI P d (acc g len)=none/\bL B n (i:Int)=some (.inr ()))
 | 0,i,n+1,h,_,h0=>by
  rw[Wf] at h; subst h;exact .inr ⟨h0,fG hE⟩
 | k+1,i,n+1,h,hn,h0=>by
  rcases hB i (by omega) with⟨v,t,h1,h2,h3⟩|⟨h1,h2⟩
  refine .inl ⟨v,t,?_,fG h2,h3⟩;have:bI P d (acc g (i+1))=some v:=by rw[acc,lp,h0]; exact h1
  have:=yH this k;rw[show i+1+k=len by omega] at this
  exact this
  rw[fy h2];exact mH Q hB hE k (i+1) n (by omega) (by omega) (by rw[acc,lp,h0]; exact h1)
noncomputable def wC (pts:YB I2) (F:YB Fc) (_:YB Ed) (e:Ed):Bool:=!decide (e.2.2.2=0) && !Kl pts (F.getD e.2.2.1.toNat ([],[])).1 ((F.getD e.2.2.1.toNat ([],[])).2.take (e.2.2.2-1).toNat++(F.getD e.2.2.1.toNat ([],[])).2.drop e.2.2.2.toNat) (pO pts e)
section
variable{pts:YB I2}{F:YB Fc}(n:Nat)
def PB{h:XE}{r:Nat}(h0:r≠0)(h1:r<=h.length)(h8:h.length<=8):Q5 n h (XN ((r:Int)-1)) (r:Int)=some (h.take ((r:Int)-1).toNat++h.drop ((r:Nat):Int).toNat):=by
 rw[av (by omega) (by omega)]
 unfold Q5;rw[Vc (show 0<h.length by omega),Vc (show(0:Int)<=(r:Int)-1 by omega),Vc (show(r:Int)-1<=(r:Int) by omega),Vc (show(r:Int)<=(h.length:Int) by omega),bo (by omega)]
 rfl
def EL(hv:Fcs pts F){f:Nat}(hf:f<F.length):wD pts.length (F.getD f ([],[])).1=true/\(F.getD f ([],[])).2.length<=8/\∀l ∈(F.getD f ([],[])).2,wD pts.length l=true:=by
 have e:F.getD f ([],[])=F[f]:=by rw[U7,U4 hf]; rfl
 rw[e];obtain⟨h8,h9⟩:=rf (hv.ok _ (Vg hf));exact⟨h9 _ (Vp ..),h8,fun l hl=>h9 l (Ve _ hl)⟩
def GN(hv:Fcs pts F){f r:Nat}(hf:f<F.length)(hr:r<(ak F f).length){d:YB Ed}(hn:99999<n) :
  (∃v t,bI (wC pts F) d (rE ((ak F f).getD r []) f r)=some v/\bL (td n ((ak F f).getD r []) (r:Int) (f:Int) F (F.getD f ([],[])).2 pts (F.getD f ([],[])).1) n 0=some (.inl t)/\v=(f:Int)) \/
  (bI (wC pts F) d (rE ((ak F f).getD r []) f r)=none/\bL (td n ((ak F f).getD r []) (r:Int) (f:Int) F (F.getD f ([],[])).2 pts (F.getD f ([],[])).1) n 0=some (.inr ())):=by
 have h40:=(iG hv f).2 r;have hs:=fun i=>zH (i:=i) hv hf hr;obtain⟨ho,h8,hh⟩:=EL hv hf;have hrl:r<=(F.getD f ([],[])).2.length:=by unfold ak at hr; rw[VF] at hr; omega
 generalize(ak F f).getD r []=l at *;refine mH (B:=td n l (r:Int) (f:Int) F (F.getD f ([],[])).2 pts (F.getD f ([],[])).1) (len:=l.length) (P:=wC pts F) (g:=fun i=>[ie l f r i]) (d:=d) (fun _ v=>v=(f:Int)) (fun i hi=>?_) ?_ l.length 0 n (by omega) (by omega) rfl
 ·obtain⟨e1,e2⟩:=qI hi;have hi2:(i+1)%l.length<l.length:=VM _ (by omega)
  have hS:=hs i hi;have hB:td n l (r:Int) (f:Int) F (F.getD f ([],[])).2 pts (F.getD f ([],[])).1 (i:Int)=if wC pts F (d++acc (fun i=>[ie l f r i]) i) (ie l f r i) then some (.inr (.inl ())) else some (.inl ((i+1:Nat):Int)):=by
   have hx:(ie l f r i).1=l.getD i 0:=rfl;have hy:(ie l f r i).2.1=l.getD ((i+1)%l.length) 0:=rfl;unfold td
   try dsimp only
   rw[aH (by omega)]
   simp only[aC hi,bf,e1,aj,aw (show i<4611686018427387904 by omega)]
   rw[fT (by omega)]
   simp only[gZ,aC hi2,bf,e2,aj];rw[<-hx,<-hy]
   by_cases r0:r=0
   subst r0;rw[aH (by omega),aj]
   have:wC pts F (d++acc (fun i=>[ie l f 0 i]) i) (ie l f 0 i)=false:=by unfold wC ie; rfl
   rw[this]; rfl
   ·have hP:wC pts F (d++acc (fun i=>[ie l f r i]) i) (ie l f r i) = !Kl pts (F.getD f ([],[])).1 ((F.getD f ([],[])).2.take ((r:Int)-1).toNat++(F.getD f ([],[])).2.drop ((r:Nat):Int).toNat) (pO pts (ie l f r i)):=by
     unfold wC
     show(!decide ((r:Int)=0)&&_)=_
     rw[Vj (by omega)]; rfl
    rw[aF (by omega),aC hf,bf,show SM n (F.getD f ([],[])).2=some (F.getD f ([],[])).2 by unfold SM; rw[bo (by omega)]; rfl,aj,PB n r0 hrl h8,aj,AR hS.1,bf,pP hS.1,aj]
    try dsimp only
    rw[AR hS.2.1,bf,pP hS.2.1,aj]
    try dsimp only
    have h1:=mO hv.near hS.1;have h2:=mO hv.near hS.2.1;unfold Nr at h1 h2;rw[av (by omega) (by omega),av (by omega) (by omega),aj]
    try dsimp only
    have h59:MF n pts F (F.getD f ([],[])).1 ((F.getD f ([],[])).2.take ((r:Int)-1).toNat++(F.getD f ([],[])).2.drop ((r:Nat):Int).toNat) ((fb pts (ie l f r i).1).1+(fb pts (ie l f r i).2.1).1) ((fb pts (ie l f r i).1).2+(fb pts (ie l f r i).2.1).2) 2=some _ :=
     Ku (F:=F) (p:=pO pts (ie l f r i)) n hv.near ho (fun l hl=>(Vq.1 hl).elim (fun h=>hh l (WC h)) (fun h=>hh l (WD h))) (by rw[Vd,Vw,VZ]; omega) (KB hv.near hS) (by omega)
    rw[h59,aj,hP];cases Kl pts (F.getD f ([],[])).1 ((F.getD f ([],[])).2.take ((r:Int)-1).toNat++(F.getD f ([],[])).2.drop ((r:Nat):Int).toNat) (pO pts (ie l f r i))<;>rfl
  by_cases c:wC pts F (d++acc (fun i=>[ie l f r i]) i) (ie l f r i)=true
  rw[U5 c] at hB;exact .inl ⟨(f:Int),(),by rw[bI,U5 c]; rfl,hB,rfl⟩
  rw[U3 c] at hB;exact .inr ⟨by rw[bI,U3 c,bI],hB⟩
 ·unfold td
  try dsimp only
  rw[aF (by omega)]
def I1(hv:Fcs pts F){f:Nat}(hf:f<F.length){d:YB Ed}(hn:99999<n) :
  (∃v t,bI (wC pts F) d (fE (ak F f) f)=some v/\bL (s8 n (ak F f) (f:Int) F (F.getD f ([],[])).2 pts (F.getD f ([],[])).1) n 0=some (.inl t)/\v=(f:Int)) \/
  (bI (wC pts F) d (fE (ak F f) f)=none/\bL (s8 n (ak F f) (f:Int) F (F.getD f ([],[])).2 pts (F.getD f ([],[])).1) n 0=some (.inr ())):=by
 obtain⟨h9,h40⟩:=iG hv f;refine mH (B:=s8 n (ak F f) (f:Int) F (F.getD f ([],[])).2 pts (F.getD f ([],[])).1) (len:=(ak F f).length) (P:=wC pts F) (g:=fun r=>rE ((ak F f).getD r []) f r) (d:=d) (fun _ v=>v=(f:Int)) (fun i hi=>?_) ?_ (ak F f).length 0 n (by omega) (by omega) rfl
 ·have hx:(ak F f)[i]? = some ((ak F f).getD i []):=by rw[U7,U4 hi]; rfl
  rcases GN n hv hf hi (d:=d++acc (fun r=>rE ((ak F f).getD r []) f r) i) hn with⟨v,t,h1,h2,h3⟩|⟨h1,h2⟩
  ·refine .inl ⟨v,(),h1,?_,h3⟩;unfold s8
   try dsimp only
   rw[aH (by omega),aC hi,bf,bM hx,aj,h2,aj]
  ·refine .inr ⟨h1,?_⟩;unfold s8
   try dsimp only
   rw[aH (by omega),aC hi,bf,bM hx,aj,h2,aj,aw (by omega)]
 ·unfold s8
  try dsimp only
  rw[aF (by omega)]
def FA(hv:Fcs pts F)(hn:99999<n) :
  (∃v t,bI (wC pts F) [] (sE F)=some v/\bL (nB n F pts) n 0=some (.inl t)/\v=t)\/(bI (wC pts F) [] (sE F)=none/\bL (nB n F pts) n 0=some (.inr ())):=by
 have hfl:=hv.rv;refine mH (B:=nB n F pts) (len:=F.length) (P:=wC pts F) (g:=fun f=>fE (ak F f) f) (d:=[]) (fun t v=>v=t) (fun i hi=>?_) ?_ F.length 0 n (by omega) (by omega) rfl
 ·rcases I1 n hv hi (d:=[]++acc (fun f=>fE (ak F f) f) i) hn with⟨v,t,h1,h2,h3⟩|⟨h1,h2⟩
  ·refine .inl ⟨v,(i:Int),h1,?_,h3⟩;unfold nB
   try dsimp only
   rw[aH (by omega),aC hi,bf,bM (iN hi),aj]
   try dsimp only
   rw[ml n hv (by omega),aj,h2,aj]
  ·refine .inr ⟨h1,?_⟩;unfold nB
   try dsimp only
   rw[aH (by omega),aC hi,bf,bM (iN hi),aj]
   try dsimp only
   rw[ml n hv (by omega),aj,h2,aj,aw (by omega)]
 ·unfold nB
  try dsimp only
  rw[aF (by omega)]
end
def II{ρ:Type}{r:ρ⊕YC}{q:Nat->Bool}{f:Nat->YA (ρ⊕YC)}{len:Nat}(hf:∀i,i<len->f i=if q i then some r else none):cm f (.inr ()) len 0=if(List.range len).any q then r else .inr ():=by
 rcases dw (f:=f) (e:=.inr ()) len 0 with⟨h1,h2⟩|⟨j,_,h2,h3⟩
 rw[h2,U3];intro h;obtain⟨i,hi,hq⟩:=List.any_eq_true.1 h;rw[Vy] at hi;have:=h1 i (by omega) (by omega)
 rw[hf i hi,U5 hq] at this; cases this
 have hj:j<len:=by omega
 rw[hf j hj] at h3
 by_cases g:q j=true
 rw[U5 g] at h3;rw[U5 (List.any_eq_true.2 ⟨j,Vy.2 hj,g⟩)];exact(U9 h3).symm
 rw[U3 g] at h3; cases h3
noncomputable def Nc (pts:YB I2) (F:YB Fc) (e:Ed) (i:Nat):Bool:=!decide ((i:Int)=e.2.2.1)&&Kl pts (F.getD i ([],[])).1 (F.getD i ([],[])).2 (pO pts e)
noncomputable def yG (pts:YB I2) (F:YB Fc) (_:YB Ed) (e:Ed):Bool:=(List.range F.length).any (Nc pts F e)
section
variable{pts:YB I2}{F:YB Fc}(n:Nat)
def Fk(hv:Fcs pts F){e:Ed}(hS:Cr pts e)(hn:99999<n):bL (ve n F e.2.2.1 e.1 pts e.2.1) n 0=some (if(List.range F.length).any (Nc pts F e) then .inl () else .inr ()):=by
 have hfl:=hv.rv;rw[<-II (r:=(.inl ():YC⊕YC)) (q:=Nc pts F e) (f:=fun i=>if Nc pts F e i then some (.inl ()) else none) (len:=F.length) (fun i _=>rfl)]
 refine dM (len:=F.length) (fun i hi=>?_) ?_ F.length 0 n (by omega) (by omega)
 ·obtain⟨ho,h8,hh⟩:=EL hv hi;unfold ve
  try dsimp only
  rw[aH (by omega),aC hi,bf,bM (iN hi),aj]
  try dsimp only
  unfold Nc
  by_cases c:(i:Int)=e.2.2.1
  rw[Vc c];simp only[V4,ib,aj,Bool.false_and,VG,if_false];rw[aw (by omega)]
  ·rw[Vj c];rw[VW,jm,AR hS.1,bf,pP hS.1,aj]
   try dsimp only
   rw[AR hS.2.1,bf,pP hS.2.1,aj]
   try dsimp only
   have h1:=mO hv.near hS.1;have h2:=mO hv.near hS.2.1;unfold Nr at h1 h2;rw[av (x:=(fb pts e.1).1+(fb pts e.2.1).1) (by omega) (by omega),av (x:=(fb pts e.1).2+(fb pts e.2.1).2) (by omega) (by omega),aj]
   try dsimp only
   have h59:MF n pts F (F.getD i ([],[])).1 (F.getD i ([],[])).2 ((fb pts e.1).1+(fb pts e.2.1).1) ((fb pts e.1).2+(fb pts e.2.1).2) 2=some _:=Ku (F:=F) (p:=pO pts e) n hv.near ho hh h8 (KB hv.near hS) (by omega)
   rw[h59,aj,aj,aw (by omega),WH]
   cases Kl pts (F.getD i ([],[])).1 (F.getD i ([],[])).2 (pO pts e)<;>rfl
 ·unfold ve
  try dsimp only
  rw[aF (by omega)]
def Fz(hv:Fcs pts F){f r:Nat}(hf:f<F.length)(hr:r<(ak F f).length){d:YB Ed}(hn:99999<n) :
  (∃v t,bI (yG pts F) d (rE ((ak F f).getD r []) f r)=some v/\bL (oB n ((ak F f).getD r []) F (f:Int) pts) n 0=some (.inl t)/\v=(f:Int)) \/
  (bI (yG pts F) d (rE ((ak F f).getD r []) f r)=none/\bL (oB n ((ak F f).getD r []) F (f:Int) pts) n 0=some (.inr ())):=by
 have h40:=(iG hv f).2 r;have hs:=fun i=>zH (i:=i) hv hf hr;generalize(ak F f).getD r []=l at *;refine mH (B:=oB n l F (f:Int) pts) (len:=l.length) (P:=yG pts F) (g:=fun i=>[ie l f r i]) (d:=d) (fun _ v=>v=(f:Int)) (fun i hi=>?_) ?_ l.length 0 n (by omega) (by omega) rfl
 ·obtain⟨e1,e2⟩:=qI hi;have hi2:(i+1)%l.length<l.length:=VM _ (by omega)
  have hS:=hs i hi;have h11:=Fk n hv hS hn;have hB:oB n l F (f:Int) pts (i:Int)=if yG pts F (d++acc (fun i=>[ie l f r i]) i) (ie l f r i) then some (.inr (.inl ())) else some (.inl ((i+1:Nat):Int)):=by
   unfold oB
   try dsimp only
   rw[aH (by omega)]
   simp only[aC hi,bf,e1,aj,aw (show i<4611686018427387904 by omega)]
   rw[fT (by omega)]
   simp only[gZ,aC hi2,bf,e2,aj];unfold yG;unfold ie at h11 ⊢
   dsimp only at h11
   rw[h11];cases(List.range F.length).any (Nc pts F (l.getD i 0,l.getD ((i+1)%l.length) 0,(f:Int),(r:Int)))<;>rfl
  by_cases c:yG pts F (d++acc (fun i=>[ie l f r i]) i) (ie l f r i)=true
  rw[U5 c] at hB;exact .inl ⟨(f:Int),(),by rw[bI,U5 c]; rfl,hB,rfl⟩
  rw[U3 c] at hB;exact .inr ⟨by rw[bI,U3 c,bI],hB⟩
 ·unfold oB
  try dsimp only
  rw[aF (by omega)]
def Fb(hv:Fcs pts F){f:Nat}(hf:f<F.length){d:YB Ed}(hn:99999<n) :
  (∃v t,bI (yG pts F) d (fE (ak F f) f)=some v/\bL (nO n (ak F f) F (f:Int) pts) n 0=some (.inl t)/\v=(f:Int)) \/
  (bI (yG pts F) d (fE (ak F f) f)=none/\bL (nO n (ak F f) F (f:Int) pts) n 0=some (.inr ())):=by
 obtain⟨h9,h40⟩:=iG hv f;refine mH (B:=nO n (ak F f) F (f:Int) pts) (len:=(ak F f).length) (P:=yG pts F) (g:=fun r=>rE ((ak F f).getD r []) f r) (d:=d) (fun _ v=>v=(f:Int)) (fun i hi=>?_) ?_ (ak F f).length 0 n (by omega) (by omega) rfl
 ·have hx:(ak F f)[i]? = some ((ak F f).getD i []):=by rw[U7,U4 hi]; rfl
  rcases Fz n hv hf hi (d:=d++acc (fun r=>rE ((ak F f).getD r []) f r) i) hn with⟨v,t,h1,h2,h3⟩|⟨h1,h2⟩
  ·refine .inl ⟨v,(),h1,?_,h3⟩;unfold nO
   try dsimp only
   rw[aH (by omega),aC hi,bf,bM hx,aj,h2,aj]
  ·refine .inr ⟨h1,?_⟩;unfold nO
   try dsimp only
   rw[aH (by omega),aC hi,bf,bM hx,aj,h2,aj,aw (by omega)]
 ·unfold nO
  try dsimp only
  rw[aF (by omega)]
def Ft(hv:Fcs pts F)(hn:99999<n) :
  (∃v t,bI (yG pts F) [] (sE F)=some v/\bL (om n F pts) n 0=some (.inl t)/\v=t)\/(bI (yG pts F) [] (sE F)=none/\bL (om n F pts) n 0=some (.inr ())):=by
 have hfl:=hv.rv;refine mH (B:=om n F pts) (len:=F.length) (P:=yG pts F) (g:=fun f=>fE (ak F f) f) (d:=[]) (fun t v=>v=t) (fun i hi=>?_) ?_ F.length 0 n (by omega) (by omega) rfl
 ·rcases Fb n hv hi (d:=[]++acc (fun f=>fE (ak F f) f) i) hn with⟨v,t,h1,h2,h3⟩|⟨h1,h2⟩
  ·refine .inl ⟨v,(i:Int),h1,?_,h3⟩;unfold om
   try dsimp only
   rw[aH (by omega),aC hi,bf,bM (iN hi),aj]
   try dsimp only
   rw[ml n hv (by omega),aj,h2,aj]
  ·refine .inr ⟨h1,?_⟩;unfold om
   try dsimp only
   rw[aH (by omega),aC hi,bf,bM (iN hi),aj]
   try dsimp only
   rw[ml n hv (by omega),aj,h2,aj,aw (by omega)]
 ·unfold om
  try dsimp only
  rw[aF (by omega)]
end
section
variable{pts:YB I2}{F:YB Fc}(n:Nat)
def UU(F:YB Fc)(e:Ed):Prop:=∃f r k:Nat,f<F.length/\r<(ak F f).length/\k<((ak F f).getD r []).length/\e=ie ((ak F f).getD r []) f r k
def vI{k:Nat}(hk:k<=F.length):∀x∈acc (fun f=>fE (ak F f) f) k,UU F x:=fun x hx=>by
 obtain⟨f,hf,h⟩:=fV hx;obtain⟨r,hr,h⟩:=fV h;obtain⟨i,hi,h⟩:=fV h;exact⟨f,r,i,by omega,hr,hi,by simpa using h⟩
def AA(hv:Fcs pts F){f:Nat}(hf:f<F.length):∀l∈ak F f,wD pts.length l=true/\yo (dP pts l 1):=fun l hl=>by
 obtain⟨r,hr,e⟩:=Vz.1 hl;have:=E3 hv hf hr;rw[U7,U4 hr] at this;rw[<-e]; exact this
noncomputable def KM (pts:YB I2) (F:YB Fc):Int×Int:=match bI B1 [] (sE F) with
 | some v=>(7,v)
 | none=>match bI (Af pts) [] (sE F) with
  | some v=>(8,v)
  | none=>match bI (wC pts F) [] (sE F) with
   | some v=>(9,v)
   | none=>match bI (yG pts F) [] (sE F) with
    | some v=>(10,v)
    | none=>(0,0)
def HY(hv:Fcs pts F)(hn:99999<n):Rh n pts F=some (KM pts F):=by
 unfold Rh KM;rw[aj];rcases HF n hv (by omega) with⟨v,t,a1,a2,a3⟩|⟨a1,s,a2,a3⟩
 rw[a2,a1,a3]; rfl
 rw[a2,a1,aj];simp only[aj];rcases J3 n hv hn with⟨v,t,b1,b2,b3⟩|⟨b1,s,b2,b3⟩
 rw[b2,b1,b3]; rfl
 rw[b2,b1,aj];simp only[aj];rcases FA n hv hn with⟨v,t,c1,c2,c3⟩|⟨c1,c2⟩
 rw[c2,c1,c3]; rfl
 rw[c2,c1,aj];simp only[aj];rcases Ft n hv hn with⟨v,t,d1,d2,d3⟩|⟨d1,d2⟩
 rw[d2,d1,d3]; rfl
 rw[d2,d1]; rfl
end
section
variable(n:Nat)
def Rw(f:Fc):Prop:=f.1.length<=1000/\f.2.length<=1000/\∀h∈f.2,h.length<=1000
def Ma(c:YB I2×YB Fc):Prop:=c.1.length<=1000/\c.2.length<=1000/\∀f∈c.2,Rw f
end
def oH{α:Type}(l:YB α)(k:Nat):(Yl l k)=l.take k:=by
 show l.take ((mi (l.length:Int) (k:Int)).toNat-0)=_
 rw[jH,WK];rcases Nat.le_total l.length k with g|g
 rw[WG (by omega),WG g]
 rw[show(min (l.length:Int) (k:Int)).toNat=k by omega]
def tS{α:Type}(l:YB α)(k:Nat):okB 0 (mi (l.length:Int) (k:Int)) l.length=true:=Vc (by rw[jH]; omega)
section
variable{α β:Type}
def QS(l:YB α):(Yl l 10)=l.take 10:=oH l 10
def QR(l:YB α):(Yl l 42)=l.take 42:=oH l 42
def RR(l:YB α):(Yl l 66)=l.take 66:=oH l 66
def St(l:YB α):(Yl l 125)=l.take 125:=oH l 125
def Ua(l:YB α):okB 0 (mi (l.length:Int) (10:Int)) l.length=true:=tS l 10
def QZ(l:YB α):okB 0 (mi (l.length:Int) (42:Int)) l.length=true:=tS l 42
def S9(l:YB α):okB 0 (mi (l.length:Int) (66:Int)) l.length=true:=tS l 66
def Rl(l:YB α):okB 0 (mi (l.length:Int) (125:Int)) l.length=true:=tS l 125
def xX{o:YA α}{K:α->YA β}{R:β->Prop}(Q:α->Prop)(h:∃q,o=some q/\Q q)(hK:∀q,Q q->∃c,K q=some c/\R c):∃c,ob o K=some c/\R c:=by
 obtain⟨q,rfl,h2⟩:=h;exact hK q h2
def fR{c:Bool}{A B:YA α}{Q:α->Prop}(h1:c=true->∃q,A=some q/\Q q)(h2:c=false->∃q,B=some q/\Q q):∃q,br c A B=some q/\Q q:=by
 cases c
 exact h2 rfl
 exact h1 rfl
def iP{c:Bool}{A:YA α}{Q:α->Prop}(hc:c=true)(h:∃q,A=some q/\Q q):∃q,gd c A=some q/\Q q:=by
 subst hc; exact h
def s6{l:YB α}{i:Nat}(hi:i<l.length){K:α->YA β}{R:β->Prop}(h:∀x∈l,l[((i:Nat):Int).toNat]? = some x->∃c,K x=some c/\R c):∃c,ob (l[((i:Nat):Int).toNat]?) K=some c/\R c:=by
 have e:=bM (U4 hi);rw[e,aj];exact h _ (Vg hi) e
end
def Ni(f:Fc):Fc:=(f.1.take 42,(f.2.take 10).map fun h=>h.take 42)
def SR(c:YB I2×YB Fc):Prop:=c.1.length<=125/\c.2.length<=66/\∀f∈c.2,f.1.length<=42/\f.2.length<=10/\∀h∈f.2,h.length<=42
def Qz(c:YB I2×YB Fc):YB I2×YB Fc:=(c.1.take 125,(c.2.take 66).map Ni)
def H7(f:Fc):(Ni f).1.length<=42/\(Ni f).2.length<=10/\∀h ∈(Ni f).2,h.length<=42:=by
 unfold Ni;refine⟨by rw[Vw]; omega,by rw[Vf,Vw]; omega,fun h hh=>?_⟩
 obtain⟨x,_,rfl⟩:=Vi.1 hh;rw[Vw]; omega
def Ql(c:YB I2×YB Fc):SR (Qz c):=by
 unfold Qz;refine⟨by rw[Vw]; omega,by rw[Vf,Vw]; omega,fun f hf=>?_⟩
 obtain⟨x,_,rfl⟩:=Vi.1 hf;exact H7 x
def Ap(n:Nat){l:YB Int}(h:l.length<=1000):NZ n l=some l:=by
 unfold NZ; rw[bo (by omega)]; rfl
def Jf(n:Nat)(h:XE)(hn:1000<n):bL (xx n h) n ([],0)=some ((h.take 10).map fun x=>x.take 42):=by
 refine Df (B:=xx n h) (l:=h.take 10) (fun x=>x.take 42) id (fun i x hx hi=>?_) ?_ (by rw[Vw]; omega)
 have h10:(h.take 10).length<=10:=by rw[Vw]; omega
 unfold xx;simp only[QS,QR,QZ];rw[aH (by omega),aC hi,bf,bM hx,aj,bf,Ap n (by rw[Vw]; omega),aj,bo (by simp; omega),bf,aw (by omega)]
 unfold xx;simp only[QS];rw[aF (by omega)]; rfl
def Jt(n:Nat)(p:YB I2)(F:YB Fc)(hn:1000<n):QB n p F=some (Qz (p,F)):=by
 unfold QB Qz;simp only[St,Rl,S9,bf];rw[show SO n (p.take 125)=some (p.take 125) by unfold SO; rw[bo (by rw[Vw]; omega)]; rfl,aj]
 have:bL (xQ n F) n ([],0)=some ((F.take 66).map Ni):=by
  refine Df (B:=xQ n F) (l:=F.take 66) Ni id (fun i x hx hi=>?_) ?_ (by rw[Vw]; omega)
  ·have h66:(F.take 66).length<=66:=by rw[Vw]; omega
   obtain⟨o,h⟩:=x;unfold xQ;simp only[RR,QR,QZ,Ua];rw[aH (by omega),aC hi,bf,bM hx,aj]
   try dsimp only
   rw[bf,Ap n (by rw[Vw]; omega),aj,bf,Jf n h hn,aj,bo (by simp; omega),bf,aw (by omega)]
   rfl
  unfold xQ;simp only[RR];rw[aF (by omega)]; rfl
 rw[this]; rfl
def I9{B:YB Int×Int×Int->YA ((YB Int×Int×Int)⊕YB Int)}{N:Nat}(hN:N<=1000)
  (hB:∀(l:YB Int) (a b:Nat),l.length=N->b<N->a<b->∃l',B (l,(a:Int),(b:Int))=some (.inl (l',((a+1:Nat):Int),((b-1:Nat):Int)))/\l'.length=N)
  (hE:∀(l:YB Int) (a b:Int),¬a<b->B (l,a,b)=some (.inr l)) :
  ∀(k n:Nat) (l:YB Int) (a b:Nat),l.length=N->b<N->b<=a+k->k<n->∃r,bL B n (l,(a:Int),(b:Int))=some r/\r.length=N
 | 0,n+1,l,a,b,hl,_,hk,_=>⟨l,fG (hE l _ _ (by omega)),hl⟩
 | k+1,n+1,l,a,b,hl,hb,hk,hn=>by
  by_cases c:a<b
  obtain⟨l',h1,h2⟩:=hB l a b hl hb c;rw[fy h1];exact I9 hN hB hE k n l' (a+1) (b-1) h2 (by omega) (by omega) (by omega)
  exact⟨l,fG (hE l _ _ (by omega)),hl⟩
def AJ(n:Nat){l:YB Int}(hl:l.length<=1000)(hn:2000<n):∃r,bL (uG n l) n (l,0,XN ((l.length:Int)-1))=some r/\r.length=l.length:=by
 by_cases h0:l.length=0
 ·refine⟨l,?_,rfl⟩;obtain⟨n,rfl⟩:∃k,n=k+1:=⟨n-1,by omega⟩
  refine fG ?_;rw[av (by omega) (by omega)]
  unfold uG
  try dsimp only
  rw[aF (by omega)]
 rw[av (by omega) (by omega),show((l.length:Int)-1)=((l.length-1:Nat):Int) by omega]
 refine I9 (B:=uG n l) (N:=l.length) hl (fun l' a b hl' hb hab=>?_) (fun l' a b hab=>?_) (l.length-1) n l 0 (l.length-1) rfl (by omega) (by omega) (by omega)
 ·have e1:l'[((b:Nat):Int).toNat]? = some (l'.getD b 0):=by rw[VH,U7,U4 (by omega)]; rfl
  have e2:l'[((a:Nat):Int).toNat]? = some (l'.getD a 0):=by rw[VH,U7,U4 (by omega)]; rfl
  have hs:∀x,(l'.set ((a:Nat):Int).toNat x)[((b:Nat):Int).toNat]? = some (l'.getD b 0):=fun x=>by
   rw[VH,List.getElem?_set_ne (by rw[VH]; omega),<-e1,VH]
  refine⟨(l'.set ((a:Nat):Int).toNat (l'.getD b 0)).set ((b:Nat):Int).toNat (l'.getD a 0),?_,?_⟩
  ·unfold uG
   try dsimp only
   rw[aH (by omega),aC hb,bf,e1,aj,aC (show a<l.length by omega),bf,e2,aj,bf,bf,hs,aj,aw (by omega),av (x:=(b:Int)-1) (by omega) (by omega),show((b:Int)-1)=((b-1:Nat):Int) by omega]
  rw[W7,W7]; exact hl'
 ·unfold uG
  try dsimp only
  rw[aF hab]
def Kd(n:Nat){l:YB Int}(hl:l.length<=1000)(hn:2000<n):∃r,bL (J0 n l) n (l,0,XN ((l.length:Int)-1))=some r/\r.length=l.length:=AJ n hl hn
def Cm(n:Nat)(x3:Nat){l:YB Int}(hl:l.length<=1000)(hn:2000<n):∀(k m:Nat) (s:XE),10<=s.length+k->k<m->s.length<=20->(∀h∈s,h.length<=1000)->∃r,bL (vR n x3 l) m s=some r/\r.length<=20/\∀h∈r,h.length<=1000
 | 0,m+1,s,hs,_,h20,hh=>by
  have hw:XN ((x3%2:Nat):Int)=((x3%2:Nat):Int):=av (by omega) (by omega)
  refine⟨s,fG ?_,h20,hh⟩;unfold vR;rw[hw,av (by omega) (by omega),aF (by omega)]
 | k+1,m+1,s,hs,hm,h20,hh=>by
  have hw:XN ((x3%2:Nat):Int)=((x3%2:Nat):Int):=av (by omega) (by omega)
  by_cases c:(s.length:Int)<8+((x3%2:Nat):Int)
  have hB:vR n x3 l s=some (.inl (s++[l])):=by
   unfold vR;rw[hw,av (by omega) (by omega),aH c,Ap n hl,aj,bo (by simp; omega),bf]
  rw[fy hB];exact Cm n x3 hl hn k m (s++[l]) (by simp; omega) (by omega) (by simp; omega) (fun h hh'=>by
   rcases Vq.1 hh' with g|g
   exact hh h g
   rw[Vb.1 g]; exact hl)
  refine⟨s,fG ?_,h20,hh⟩;unfold vR;rw[hw,av (by omega) (by omega),aF c]
def ng{P:YB I2}{G:YB Fc}(hc:SR (P,G)){y:Fc}(hy:Rw y)(j:Nat):Ma (P,G.set j y):=by
 refine⟨VK hc.1 (by decide),?_,fun f hf=>?_⟩
 show(G.set j y).length<=1000
 rw[W7]; exact VK hc.2.1 (by decide)
 rcases List.mem_or_eq_of_mem_set hf with h|h
 have:=hc.2.2 f h;exact⟨by omega,by omega,fun h hh=>by have:=this.2.2 h hh; omega⟩
 rw[h]; exact hy
def kD{P:YB I2}{G:YB Fc}(hc:SR (P,G)){a:YB Int}{b:XE}(ha:a.length<=1000)(hb:b.length<=1000)(hx:∀x∈b,x.length<=1000)(j:Nat):Ma (P,G.set j (a,b)):=ng hc (y:=(a,b)) ⟨ha,hb,hx⟩ j
def zw{c:YB I2×YB Fc}(h:SR c):Ma c:=⟨by have:=h.1; omega,by have:=h.2.1; omega,fun f hf=>by
 have:=h.2.2 f hf;exact⟨by omega,by omega,fun x hx=>by have:=this.2.2 x hx; omega⟩⟩
def IC(n:Nat)(x1 x2 x3:Nat)(x4 x5 x6:Int)(p:YB I2)(F:YB Fc)(h2:x2<256)(h3:x3<256)(hn:10000<n):∃c,Qx n x1 x2 x3 x4 x5 x6 p F=some c/\Ma c:=by
 unfold Qx;rw[Jt n p F (by omega),aj]
 have hb:=Ql (p,F);generalize Qz (p,F)=c at *;obtain⟨P,G⟩:=c
 try dsimp only
 have hP:P.length<=125:=hb.1;have hG:G.length<=66:=hb.2.1;have w2:XN ((x2:Nat):Int)=(x2:Int):=av (by omega) (by omega)
 have w3:XN ((x3:Nat):Int)=(x3:Int):=av (by omega) (by omega)
 by_cases e1:(P.length:Int)=0
 rw[aH e1,aj,jm]; exact⟨_,rfl,zw hb⟩
 rw[aF e1,aj]
 by_cases e2:(G.length:Int)=0
 rw[aH e2]; exact⟨_,rfl,zw hb⟩
 rw[aF e2,fT e1,fT e2];simp only[w2,w3,gZ];have hj:x2%G.length<G.length:=VM _ (by omega)
 have hi:x2%P.length<P.length:=VM _ (by omega)
 have hi3:x3%P.length<P.length:=VM _ (by omega)
 have hj3:x3%G.length<G.length:=VM _ (by omega)
 rw[aC hj,bf];refine s6 hj fun y hy _=>?_;obtain⟨o,h⟩:=y;have hy':=hb.2.2 _ hy;have ho:o.length<=42:=hy'.1;have hh:h.length<=10:=hy'.2.1;have hhh:∀x∈h,x.length<=42:=hy'.2.2;have hyF:Rw (o,h):=⟨by show o.length<=1000; omega,by show h.length<=1000; omega,fun x hx=>by have:=hhh x hx; omega⟩
 try dsimp only
 refine xX (fun q=>Ma (q.1,q.2.2.2)) ?_ (fun q hq=>?_)
 rotate_left
 obtain⟨a,b,c,d⟩:=q; exact⟨(a,d),rfl,hq⟩
 refine fR (fun _=>?_) (fun _=>?_)
 
 rw[aC hi,bf];refine s6 hi fun y _ _=>?_;obtain⟨y1,y2⟩:=y;refine⟨_,rfl,?_⟩;have:=ng hb hyF (x2%G.length);exact⟨by show(List.set ..).length<=_; rw[W7]; omega,this.2⟩
 refine fR (fun _=>?_) (fun _=>?_)
 ·rw[fT e1,aC hi3,bf];refine s6 hi3 fun y _ _=>?_;obtain⟨y1,y2⟩:=y
  try dsimp only
  rw[aC hi,bf];refine s6 hi fun z _ _=>?_;obtain⟨z1,z2⟩:=z;refine⟨_,rfl,?_⟩;have:=ng hb hyF (x2%G.length);exact⟨by show(List.set ..).length<=_; rw[W7]; omega,this.2⟩
 refine fR (fun _=>?_) (fun _=>?_)
 refine iP (bo (by simp; omega)) ⟨_,rfl,?_⟩
 have:=ng hb hyF (x2%G.length);exact⟨by show List.length (_++_)<=_; simp; omega,this.2⟩
 refine fR (fun _=>?_) (fun _=>?_)
 refine iP (Vc ⟨by omega,by omega,by omega⟩) (iP (Vc (by omega)) ⟨_,rfl,?_⟩)
 have:=ng hb hyF (x2%G.length);exact⟨by show(List.take ..).length<=_; rw[Vw]; omega,this.2⟩
 refine fR (fun _=>?_) (fun _=>?_)
 ·rw[Jt n P G (by omega),aj]
  unfold Qz
  try dsimp only
  have hl:((G.take 66).map Ni).length=G.length:=by rw[Vf,Vw]; omega
  rw[fT e2,aC (by omega),bf]
  refine s6 (by omega) fun z hz _=>?_
  obtain⟨z1,z2⟩:=z;refine iP (bo (by simp; omega)) ⟨_,rfl,?_⟩
  have h0:=zw hb;refine⟨h0.1,by show List.length (_++_)<=_; simp; omega,fun f hf=>?_⟩
  rcases Vq.1 hf with g|g
  exact h0.2.2 f g
  rw[Vb.1 g];obtain⟨w,_,hw⟩:=Vi.1 hz;have:=H7 w;rw[hw] at this;exact⟨by show z1.length<=1000; have:=this.1; dsimp only at this; omega,by show z2.length<=1000; have:=this.2.1; dsimp only at this; omega,fun x hx=>by have:=this.2.2 x hx; omega⟩
 refine fR (fun _=>?_) (fun _=>?_)
 rw[fT e2,fT e2,aj,aw (by omega)]
 refine xX (fun q=>q.length<=66/\∀f∈q,f∈G) ?_ (fun q hq=>⟨_,rfl,?_⟩)
 unfold TS;refine iP ?_ ⟨_,rfl,?_,fun f hf=>?_⟩
 rw[Vc (show 0<G.length by omega),Vc (show(0:Int)<=((x2%G.length:Nat):Int) by omega),Vc (show((x2%G.length:Nat):Int)<((x2%G.length+1:Nat):Int) by omega),Vc (show((x2%G.length+1:Nat):Int)<=(G.length:Int) by omega),bo (by omega)]; rfl
 rw[Vd,Vw,VZ]; omega
 exact(Vq.1 hf).elim WC WD
 have h0:=zw hb;exact⟨h0.1,by show q.length<=1000; omega,fun f hf=>h0.2.2 f (hq.2 f hf)⟩
 refine fR (fun _=>?_) (fun _=>?_)
 refine fR (fun c=>?_) (fun _=>⟨_,rfl,ng hb hyF _⟩);have c:=of_decide_eq_true c;have hk:x3%o.length<o.length:=VM _ (by omega)
 rw[fT (by omega),aC hk,bf]
 refine s6 hk fun z _ _=>⟨_,rfl,kD hb ?_ hyF.2.1 hyF.2.2 _⟩;rw[W7]; omega
 refine fR (fun _=>?_) (fun _=>?_)
 obtain⟨r,hr,hl⟩:=AJ n (l:=o) (by omega) (by omega)
 rw[hr,aj,aj];exact⟨_,rfl,kD hb (show r.length<=1000 by omega) hyF.2.1 hyF.2.2 _⟩
 refine fR (fun _=>?_) (fun _=>?_)
 exact⟨_,rfl,kD hb hyF.1 (b:=[]) (V9 _) (fun _ hx=>by cases hx) _⟩
 refine fR (fun _=>?_) (fun _=>?_)
 ·rw[fT e2,aC hj3,bf];refine s6 hj3 fun z hz _=>?_;obtain⟨z1,z2⟩:=z;have hz1:z1.length<=42:=(hb.2.2 _ hz).1
  try dsimp only
  rw[Ap n (by omega),aj,bo (by simp; omega),bf,aj]
  have hw:XN (((h++[z1]).length:Int)-1)=(h.length:Int):=by
   rw[Vd,List.length_singleton,av (by omega) (by omega)]; omega
  rw[hw,aC (by simp),bf,show(h++[z1])[((h.length:Nat):Int).toNat]? = some z1 by simp,aj]
  obtain⟨r,hr,hl⟩:=Kd n (l:=z1) (by omega) (by omega)
  rw[hr,aj,aj];refine⟨_,rfl,kD hb hyF.1 (by rw[W7,Vd]; simp; omega) (fun x hx=>?_) _⟩
  rcases List.mem_or_eq_of_mem_set hx with g|g
  rcases Vq.1 g with g|g
  exact hyF.2.2 x g
  rw[Vb.1 g]; omega
  rw[g]; omega
 refine fR (fun _=>?_) (fun _=>?_)
 refine fR (fun c=>?_) (fun _=>⟨_,rfl,ng hb hyF _⟩);have c:=of_decide_eq_true c;have hk:x3%o.length<o.length:=VM _ (by omega)
 rw[fT (by omega),fT (by omega),aj,aw (by omega)]
 refine xX (fun q=>q.length<=42) ?_ (fun q hq=>⟨_,rfl,kD hb (show q.length<=1000 by omega) hyF.2.1 hyF.2.2 _⟩)
 unfold Te;refine iP ?_ ⟨_,rfl,?_⟩
 rw[Vc (show 0<o.length by omega),Vc (show(0:Int)<=((x3%o.length:Nat):Int) by omega),Vc (show((x3%o.length:Nat):Int)<=((x3%o.length+1:Nat):Int) by omega),Vc (show((x3%o.length+1:Nat):Int)<=(o.length:Int) by omega),bo (by omega)]; rfl
 rw[Vd,Vw,VZ]; omega
 refine fR (fun _=>?_) (fun _=>?_)
 have hk:x3%(o.length+1)<o.length+1:=VM _ (by omega)
 rw[aw (by omega),fT (by omega),aj,fT e1]
 simp only[gZ];refine xX (fun q=>q.length<=43) ?_ (fun q hq=>⟨_,rfl,kD hb (show q.length<=1000 by omega) hyF.2.1 hyF.2.2 _⟩)
 unfold To;refine iP ?_ ⟨_,rfl,?_⟩
 rw[Vc (show(0:Int)<=((x3%(o.length+1):Nat):Int) by omega),Vc (show((x3%(o.length+1):Nat):Int)<=(o.length:Int) by omega),bo (by omega)]; rfl
 rw[Vd,Vd,Vw,VZ]; simp; omega
 refine fR (fun _=>?_) (fun _=>?_)
 refine fR (fun c=>?_) (fun _=>⟨_,rfl,ng hb hyF _⟩);have c:=of_decide_eq_true c;have hk:x3%o.length<o.length:=VM _ (by omega)
 refine iP (Vc (by omega)) (iP (Vc ⟨by omega,by omega,by omega⟩) ?_)
 rw[Ap n (by rw[Vw,VZ]; omega),aj]
 refine iP (Vc (by omega)) (iP (Vc ⟨by omega,by omega,by omega⟩) (iP (bo ?_) ⟨_,rfl,kD hb ?_ hyF.2.1 hyF.2.2 _⟩))
 rw[Vd,Vw,VZ,Vw,VZ]; omega
 rw[Vd,Vw,VZ,Vw,VZ]; omega
 obtain⟨r,hr,hl,hx⟩:=Cm n x3 (l:=o) (by omega) (by omega) 10 n h (by omega) (by omega) (by omega) (fun x hx=>hyF.2.2 x hx)
 rw[hr,aj];exact⟨_,rfl,kD hb hyF.1 (show r.length<=1000 by omega) hx _⟩
def zq(n:Nat)(l:YB Nat)(k:Nat):∃r,Ht n l (k:Int)=some r/\True:=by
 unfold Ht;refine fR (fun _=>⟨_,rfl,trivial⟩) (fun c=>?_);have c:=of_decide_eq_false c;have hk:k%l.length<l.length:=VM _ (by omega)
 rw[fT c,gZ,aC hk,bf];exact s6 hk fun x _ _=>⟨_,rfl,trivial⟩
def Is(n:Nat){w:Nat}(hw:w<=5)(y:Int)(l8:YB Nat){l0:YB I2}(h0:l0.length<=1000)(hn:1000<n):∃r,bL (pN n (w:Int) y l8) n (l0,0,0)=some r/\r.length=l0.length+(w+1):=by
 refine fq (B:=pN n (w:Int) y l8) (len:=w+1) (fun i (s:YB I2×Int)=>(s.1,s.2,(i:Int))) (fun i s=>s.1.length=l0.length+i) (fun r=>r.length=l0.length+(w+1)) (fun i s hi hs=>.inl ?_) (fun s hs=>?_) (w+1) 0 (l0,0) n (by omega) (by omega) rfl
 ·obtain⟨l,x⟩:=s
  try dsimp only at hs ⊢
  obtain⟨r,hr,_⟩:=zq n l8 i;refine⟨(l++[(x,y)],XN ((XN (x+1))+(Int.tmod r 5))),?_,by simp; omega⟩
  unfold pN
  try dsimp only
  rw[aH (by omega),bo (by simp; omega),bf,hr,aj,aw (by omega)]
 ·obtain⟨l,x⟩:=s;refine⟨l,?_,hs⟩;unfold pN
  try dsimp only
  rw[aF (by omega)]
def JB(n:Nat){w h:Nat}(hw:w<=5)(hh:h<=5)(l8:YB Nat)(hn:1000<n):∃r,bL (pW n (h:Int) (w:Int) l8) n ([],0,0)=some r/\r.length=(h+1)*(w+1):=by
 refine fq (B:=pW n (h:Int) (w:Int) l8) (len:=h+1) (fun i (s:YB I2×Int)=>(s.1,s.2,(i:Int))) (fun i s=>s.1.length=i*(w+1)) (fun r=>r.length=(h+1)*(w+1)) (fun i s hi hs=>.inl ?_) (fun s hs=>?_) (h+1) 0 ([],0) n (by omega) (by omega) (by simp)
 ·obtain⟨l,y⟩:=s
  try dsimp only at hs ⊢
  have hb:i*(w+1)<=5*(w+1):=V1 _ (by omega)
  obtain⟨r,hr,hl⟩:=Is n hw y l8 (l0:=l) (by omega) hn
  obtain⟨r',hr',_⟩:=zq n l8 (7+i);refine⟨(r,XN ((XN (y+1))+(Int.tmod r' 5))),?_,by rw[V2]; dsimp only; omega⟩
  unfold pW
  try dsimp only
  rw[aH (by omega),hr,aj,av (x:=7+(i:Int)) (by omega) (by omega),show(7+(i:Int))=((7+i:Nat):Int) by omega,hr',aj,aw (by omega)]
 ·obtain⟨l,y⟩:=s;refine⟨l,?_,hs⟩;unfold pW
  try dsimp only
  rw[aF (by omega)]
def wB(k:Nat)(l:YB Fc):Prop:=l.length<=k/\∀f∈l,Rw f
def my{k j:Nat}{l m:YB Fc}(h:wB k l)(hm:wB j m):wB (k+j) (l++m):=⟨by rw[Vd]; have:=h.1; have:=hm.1; omega,fun f hf=>(Vq.1 hf).elim (h.2 f) (hm.2 f)⟩
def wB.le{k j:Nat}{l:YB Fc}(h:wB k l)(hk:k<=j):wB j l:=⟨by have:=h.1; omega,h.2⟩
def Ja{o:YB Int}(h:o.length<=1000):Rw (o,[]):=⟨h,by simp,fun _ hx=>by cases hx⟩
def Ao{o:YB Int}(h:o.length<=1000):wB 2 [(o,[])]:=⟨by simp,fun f hf=>by rw[Vb.1 hf]; exact Ja h⟩
def NP{o o':YB Int}(h:o.length<=1000)(h':o'.length<=1000):wB 2 [(o,[]),(o',[])]:=⟨by simp,fun f hf=>by
 rcases Vu.1 hf with e|hf
 rw[e]; exact Ja h
 rw[Vb.1 hf]; exact Ja h'⟩
def Cz{k:Nat}{l:YB Fc}(h:wB k l)(hk:k<=1000):lim l.length=true:=bo (by have:=h.1; omega)
def Kr(n:Nat){w v:Nat}(hw:w<=5)(hv:v<=5)(l3:YB Nat){k:Nat}(hk:k<=500){l0:YB Fc}(h0:wB k l0)(hn:1000<n):∃r,bL (nF n (w:Int) (v:Int) l3) n (l0,0)=some r/\wB (k+10) r:=by
 refine fq (B:=nF n (w:Int) (v:Int) l3) (len:=w) (fun i (s:YB Fc)=>(s,(i:Int))) (fun i s=>wB (k+2*i) s) (fun r=>wB (k+10) r) (fun i s hi hs=>.inl ?_) (fun s hs=>⟨s,?_,hs.le (by omega)⟩) w 0 l0 n (by omega) (by omega) h0
 ·have hvw:v*w<=5*5:=Wr hv hw;obtain⟨q,hq,_⟩:=zq n l3 (v*w+i);have hx:XN ((XN ((v:Int)*(w:Int)))+(i:Int))=((v*w+i:Nat):Int):=by
   rw[show((v:Int)*(w:Int))=((v*w:Nat):Int) from(Int.natCast_mul v w).symm,av (x:=((v*w:Nat):Int)) (by omega) (by omega),av (by omega) (by omega)]; omega
  have key:∀(s':YB Fc),wB (k+2*i+2) s'->wB (k+2*(i+1)) s':=fun s' h=>h.le (by omega)
  suffices hg:∃c,nF n (w:Int) (v:Int) l3 (s,(i:Int))=some c/\∃s',c=.inl (s',((i+1:Nat):Int))/\wB (k+2*i+2) s' by
   obtain⟨c,h1,s',h2,h3⟩:=hg;exact⟨s',by rw[h1,h2],key s' h3⟩
  unfold nF
  try dsimp only
  rw[aH (by omega)]
  refine xX (fun s'=>wB (k+2*i+2) s') ?_ (fun s' hs'=>⟨_,rfl,s',by rw[aw (by omega)],hs'⟩)
  rw[aj,hx,hq,aj];refine fR (fun _=>?_) (fun _=>fR (fun _=>fR (fun _=>?_) (fun _=>?_)) (fun _=>?_))
  rw[aj,aj];exact iP (Cz (my hs (NP (by simp) (by simp))) (by omega)) ⟨_,rfl,my hs (NP (by simp) (by simp))⟩
  exact⟨_,rfl,hs.le (by omega)⟩
  rw[aj];exact iP (Cz (my hs (Ao (by simp))) (by omega)) ⟨_,rfl,my hs (Ao (by simp))⟩
  rw[aj];exact iP (Cz (my hs (Ao (by simp))) (by omega)) ⟨_,rfl,my hs (Ao (by simp))⟩
 ·unfold nF
  try dsimp only
  rw[aF (by omega)]
def GJ(n:Nat){w h:Nat}(hw:w<=5)(hh:h<=5)(l3:YB Nat)(hn:1000<n):∃r,bL (pU n (h:Int) (w:Int) l3) n ([],0)=some r/\wB 50 r:=by
 refine fq (B:=pU n (h:Int) (w:Int) l3) (len:=h) (fun i (s:YB Fc)=>(s,(i:Int))) (fun i s=>wB (10*i) s) (fun r=>wB 50 r) (fun i s hi hs=>.inl ?_) (fun s hs=>⟨s,?_,hs.le (by omega)⟩) h 0 [] n (by omega) (by omega) ⟨by simp,fun _ hx=>by cases hx⟩
 ·obtain⟨r,hr,hb⟩:=Kr n hw (v:=i) (by omega) l3 (k:=10*i) (by omega) hs hn
  refine⟨r,?_,hb.le (by omega)⟩
  unfold pU
  try dsimp only
  rw[aH (by omega),hr,aj,aw (by omega)]
 ·unfold pU
  try dsimp only
  rw[aF (by omega)]
def PE(n:Nat)(x1 x2:Nat)(l3 l8:YB Nat)(b:Bool)(hn:1000<n):∃c,Ml n x1 x2 l3 l8 b=some c/\Ma c:=by
 have hwh:∃w h:Nat,w<=5/\h<=5/\(br b (some ((3:Int),(3:Int))) (some (XN (1+(XN ((x1%4:Nat):Int))),XN (1+(XN ((x2%3:Nat):Int))))))=some ((w:Int),(h:Int)):=by
  cases b
  refine⟨1+x1%4,1+x2%3,by omega,by omega,?_⟩
  rw[ib,av (x:=((x1%4:Nat):Int)) (by omega) (by omega),av (x:=((x2%3:Nat):Int)) (by omega) (by omega),av (by omega) (by omega),av (by omega) (by omega)]
  rfl
  exact⟨3,3,by omega,by omega,rfl⟩
 obtain⟨w,h,hw,hh,e⟩:=hwh;unfold Ml;rw[e,aj]
 try dsimp only
 obtain⟨P,hP,hPl⟩:=JB n hw hh l8 hn;have hPb:P.length<=1000:=by
  have:(h+1)*(w+1)<=6*6:=Wr (by omega) (by omega)
  omega
 rw[hP,aj];cases b
 rw[ib];obtain⟨r,hr,hb⟩:=GJ n hw hh l3 hn;rw[hr,aj];exact⟨_,rfl,hPb,by have:=hb.1; show r.length<=1000; omega,hb.2⟩
 rw[jm];have h1:wB 1 ([([0,1,2,3,7,11,15,14,13,12,8,4],[[5,9,10,6]])]:YB Fc):=⟨by simp,fun f hf=>by
  rw[Vb.1 hf];exact⟨by simp,by simp,fun x hx=>by rw[Vb.1 hx]; simp⟩⟩
 refine iP (bo (by simp)) (xX (fun l=>wB 5 l) ?_ (fun l hl=>⟨_,rfl,hPb,by have:=hl.1; show l.length<=1000; omega,hl.2⟩))
 obtain⟨q,hq,_⟩:=zq n l3 0;rw[show Ht n l3 0=some q from hq,aj]
 refine fR (fun _=>iP (bo (by simp)) ⟨_,rfl,?_⟩) (fun _=>⟨_,rfl,h1.le (by omega)⟩)
 exact(my h1 (Ao (o:=[5,6,10,9]) (by simp))).le (by omega)
def Sq(n:Nat)(x1 x2:Nat)(l3 l8:YB Nat)(b:Bool)(x14 x15 x16:Nat)(x17 x18 x19:Int)(x20 x21 x22:Nat)(x23 x24 x25:Int)(h15:x15<256)(h16:x16<256)(h21:x21<256)(h22:x22<256)(hn:10000<n) :
  ∃c d e,F7 n x1 x2 l3 l8 b x14 x15 x16 x17 x18 x19 x20 x21 x22 x23 x24 x25=some (c.1,c.2,d.1,d.2,e.1,e.2)/\Ma c/\Ma d/\Ma e/\Ml n x1 x2 l3 l8 b=some c:=by
 obtain⟨c,h1,b1⟩:=PE n x1 x2 l3 l8 b (by omega)
 obtain⟨d,h2,b2⟩:=IC n x14 x15 x16 x17 x18 x19 c.1 c.2 h15 h16 hn;obtain⟨e,h3,b3⟩:=IC n x20 x21 x22 x23 x24 x25 d.1 d.2 h21 h22 hn;refine⟨c,d,e,?_,b1,b2,b3,h1⟩;unfold F7;rw[h1,aj]
 try dsimp only
 rw[h2,aj]
 try dsimp only
 rw[h3,aj]
section
variable{pts:YB I2}{F:YB Fc}(n:Nat)
end
section
variable{pts:YB I2}{F:YB Fc}(n:Nat)
end
section
variable{pts:YB I2}{F:YB Fc}(n:Nat)
end
section
variable{pts:YB I2}{F:YB Fc}(n:Nat)
end
def oz{α β:Type}[DecidableEq α]{xs:YB (α×β)}(hn:(xs.map Prod.fst).Nodup){k:α}{v:β}:bR xs k=some v↔(k,v)∈xs:=by
 have key:∀(xs:YB (α×β)) (i:Nat),(xs.map Prod.fst).Nodup->((cV k xs i).map (·.2)=some v↔(k,v)∈xs):=by
  intro xs
  induction xs with
  | nil=>intro i _; simp[cV]
  | cons e xs ih =>
   intro i hn;rw[V6,Ww] at hn;unfold cV
   by_cases h:k=e.1
   rw[U5 h,Vu];constructor
   intro g;have:e.2=v:=U9 g;exact .inl (by rw[h,<-this])
   rintro(g|g)
   show some e.2=some v
   rw[<-g]
   exact Vr (Vi.2 ⟨(k,v),g,h⟩) hn.1
   rw[U3 h,ih (i+1) hn.2,Vu];exact⟨.inr,fun g=>g.elim (fun g=>Vr (Vs Prod.fst g) h) id⟩
 exact key xs 0 hn
def qk{α β:Type}[DecidableEq α]{xs:YB (α×β)}(hn:(xs.map Prod.fst).Nodup)(k:α)(v:β):((fX xs k v).map Prod.fst).Nodup:=by
 rw[k9]
 by_cases g:k∈xs.map Prod.fst
 rw[U5 g]; exact hn
 rw[U3 g];refine List.nodup_append.2 ⟨hn,by simp,fun u hu v hv=>?_⟩
 rw[Vb] at hv;intro e; rw[e,hv] at hu; exact g hu
def fc(E:YB Ed)(a b:Int):Int:=E.foldl (fun x e=>if e.1=a/\e.2.1=b then e.2.2.1 else x) (-1)
def sv(E:YB Ed)(e:Ed)(a b:Int):fc (E++[e]) a b=if e.1=a/\e.2.1=b then e.2.2.1 else fc E a b:=by unfold fc; rw[List.foldl_append]; rfl
def Sx(N:Nat)(e:Ed):Prop:=(0<=e.1/\e.1<N)/\(0<=e.2.1/\e.2.1<N)/\e.1≠e.2.1/\0<=e.2.2.1/\e.2.2.1<64
def qJ{α:Type}{P:YB α->Prop}(h0:P [])(h1:∀l a,P l->P (l++[a]))(l:YB α):P l:=by
 have:∀l:YB α,P l.reverse:=fun l=>by
  induction l with
  | nil=>exact h0
  | cons a l ih=>rw[List.reverse_cons]; exact h1 _ _ ih
 have:=this l.reverse;rwa[List.reverse_reverse] at this
def NN{N:Nat}(a b:Int):∀E:YB Ed,(∀e∈E,Sx N e)->-1<=fc E a b/\fc E a b<64:=by
 refine qJ (fun _=>⟨(by show(-1:Int)<=-1; decide),(by show(-1:Int)<64; decide)⟩) fun E e ih h=>?_
 rw[sv];have h1:=ih fun x hx=>h x (Vl _ hx);have h2:=h e (Vv _ (Vb.2 rfl))
 split
 have:=h2.2.2.2; omega
 exact h1
def KO(m:YB ((Int×Int)×dm))(e:Ed):YB ((Int×Int)×dm) :=
 fX m (mi e.1 e.2.1,ma e.1 e.2.1) (((bR m (mi e.1 e.2.1,ma e.1 e.2.1)).getD (mi e.1 e.2.1,ma e.1 e.2.1,-1,-1)).1,((bR m (mi e.1 e.2.1,ma e.1 e.2.1)).getD (mi e.1 e.2.1,ma e.1 e.2.1,-1,-1)).2.1,
  (if e.1=mi e.1 e.2.1 then e.2.2.1 else((bR m (mi e.1 e.2.1,ma e.1 e.2.1)).getD (mi e.1 e.2.1,ma e.1 e.2.1,-1,-1)).2.2.1),(if e.1=mi e.1 e.2.1 then((bR m (mi e.1 e.2.1,ma e.1 e.2.1)).getD (mi e.1 e.2.1,ma e.1 e.2.1,-1,-1)).2.2.2 else e.2.2.1))
structure Wm(N:Nat)(E:YB Ed)(m:YB ((Int×Int)×dm)):Prop where
 nd:(m.map Prod.fst).Nodup
 rg:∀p∈m.map Prod.fst,0<=p.1/\p.1<p.2/\p.2<N
 get:∀i k:Int,i<k->bR m (i,k)=if 0<=fc E i k\/0<=fc E k i then some (i,k,fc E i k,fc E k i) else none
def Q9{N:Nat}:∀E:YB Ed,(∀e∈E,Sx N e)->Wm N E (E.foldl KO []):=by
 refine qJ (fun _=>⟨List.nodup_nil,fun _ h=>(by cases h),fun i k _=>(by rw[U3 (show ¬(0<=fc [] i k\/0<=fc [] k i) from(by decide:¬((0:Int)<=-1\/(0:Int)<=-1)))]; rfl)⟩) fun E e ih h=>?_
 have hE:=fun x hx=>h x (Vl _ hx);obtain⟨nd,rg,get⟩:=ih hE;obtain⟨⟨a0,a1⟩,⟨b0,b1⟩,ne,f0,f1⟩:=h e (Vv _ (Vb.2 rfl));rw[List.foldl_append,List.foldl_cons,List.foldl_nil];generalize E.foldl KO []=m at *;obtain⟨a,b,f,r⟩:=e
 dsimp only at *
 have hk:0<=mi a b/\mi a b<ma a b/\ma a b<N:=by rw[jH,kh]; omega
 refine⟨qk nd _ _,fun p hp=>?_,fun i k hik=>?_⟩
 unfold KO at hp;rw[k9] at hp
 split at hp
 exact rg p hp
 rcases Vq.1 hp with hp|hp
 exact rg p hp
 rw[Vb.1 hp]; exact hk
 have g0:=get (mi a b) (ma a b) hk.2.1;have c1:=(NN (mi a b) (ma a b) E hE).1;have c2:=(NN (ma a b) (mi a b) E hE).1;unfold KO
 dsimp only
 rw[dJ];have hx:(bR m (mi a b,ma a b)).getD (mi a b,ma a b,-1,-1)=(mi a b,ma a b,fc E (mi a b) (ma a b),fc E (ma a b) (mi a b)):=by
  rw[g0]
  by_cases c:0<=fc E (mi a b) (ma a b)\/0<=fc E (ma a b) (mi a b)
  rw[U5 c]; rfl
  rw[U3 c]
  show(mi a b,ma a b,(-1:Int),(-1:Int))=_
  rw[show fc E (mi a b) (ma a b) = -1 by omega,show fc E (ma a b) (mi a b) = -1 by omega]
 rw[hx,sv,sv]
 dsimp only
 rcases Int.lt_or_gt_of_ne ne with hab|hab
 have e1:mi a b=a:=by rw[jH]; omega
 have e2:ma a b=b:=by rw[kh]; omega
 rw[e1,e2,U5 rfl,U5 rfl]
 by_cases c:(i,k)=(a,b)
 obtain⟨rfl,rfl⟩:=Prod.mk.inj c;rw[U5 c,U5 (show i=i/\k=k from⟨rfl,rfl⟩),U3 (show ¬(i=k/\k=i) by omega),U5 (.inl f0)]
 rw[U3 c,U3 (fun g:a=i/\b=k=>c (by rw[g.1,g.2])),U3 (show ¬(a=k/\b=i) by omega)]
 exact get i k hik
 have e1:mi a b=b:=by rw[jH]; omega
 have e2:ma a b=a:=by rw[kh]; omega
 rw[e1,e2,U3 (show ¬a=b by omega),U3 (show ¬a=b by omega)]
 by_cases c:(i,k)=(b,a)
 obtain⟨rfl,rfl⟩:=Prod.mk.inj c;rw[U5 c,U3 (show ¬(k=i/\i=k) by omega),U5 (show k=k/\i=i from⟨rfl,rfl⟩),U5 (.inr f0)]
 rw[U3 c,U3 (show ¬(a=i/\b=k) by omega),U3 (fun g:a=k/\b=i=>c (by rw[g.1,g.2]))]
 exact get i k hik
def yA{σ:Type}{B:(Int×σ)->YA ((Int×σ)⊕σ)}{len:Nat}{g:Nat->YB Ed}{f:σ->Ed->σ}{s0:σ}(hB:∀(i:Nat) s,i<len->B ((i:Int),s)=some (.inl (((i+1:Nat):Int),(g i).foldl f s)))
  (hE:∀s,B ((len:Int),s)=some (.inr s)) {n:Nat} (hn:len<n):bL B n (0,s0)=some ((acc g len).foldl f s0):=by
 obtain⟨r,h1,h2⟩:=fq (B:=B) (len:=len) (fun i (s:σ)=>((i:Int),s)) (fun i s=>s=(acc g i).foldl f s0) (fun r=>r=(acc g len).foldl f s0) (fun i s hi hs=>.inl ⟨_,hB i s hi,by rw[hs,acc,List.foldl_append]⟩) (fun s hs=>⟨_,hE s,hs⟩) len 0 s0 n (by omega) hn rfl
 rw[<-h2]; exact h1
section
variable{pts:YB I2}{F:YB Fc}(n:Nat)
def HN{l:YB Int}{f r:Nat}{m:YB ((Int×Int)×dm)}(hl:l.length<=40)(hn:1000<n):bL (xu n l (f:Int)) n (0,m)=some ((rE l f r).foldl KO m):=by
 refine yA (B:=xu n l (f:Int)) (len:=l.length) (g:=fun i=>[ie l f r i]) (fun i s hi=>?_) (fun s=>?_) (by omega)
 ·obtain⟨e1,e2⟩:=qI hi;have hi2:(i+1)%l.length<l.length:=VM _ (by omega)
  unfold xu
  try dsimp only
  rw[aH (by omega)]
  simp only[aC hi,bf,e1,aj,aw (show i<4611686018427387904 by omega)]
  rw[fT (by omega)]
  simp only[gZ,aC hi2,bf,e2,aj];rw[List.foldl_cons,List.foldl_nil];unfold KO ie
  dsimp only
  generalize l.getD i 0=a;generalize l.getD ((i+1)%l.length) 0=b;cases hm:bR s (mi a b,ma a b) with
  | none =>
   simp only[Option.getD_none,Option.isSome_none,VW,jm,aj]
   by_cases c:a=mi a b
   rw[aH c,U5 c,U5 c]; rfl
   rw[aF c,U3 c,U3 c]; rfl
  | some x =>
   obtain⟨x1,x2,x3,x4⟩:=x;simp only[Option.getD_some,Option.isSome_some,V4,ib,aj]
   by_cases c:a=mi a b
   rw[aH c,U5 c,U5 c]; rfl
   rw[aF c,U3 c,U3 c]; rfl
 ·unfold xu
  try dsimp only
  rw[aF (by omega)]
def J5{rs:XE}{f:Nat}{m:YB ((Int×Int)×dm)}(h9:rs.length<=9)(h40:∀r,(rs.getD r []).length<=40)(hn:1000<n):bL (xZ n rs (f:Int)) n (0,m)=some ((fE rs f).foldl KO m):=by
 refine yA (B:=xZ n rs (f:Int)) (len:=rs.length) (g:=fun r=>rE (rs.getD r []) f r) (fun i s hi=>?_) (fun s=>?_) (by omega)
 ·have hx:rs[i]? = some (rs.getD i []):=by rw[U7,U4 hi]; rfl
  unfold xZ
  try dsimp only
  rw[aH (by omega),aC hi,bf,bM hx,aj,HN n (r:=i) (h40 i) hn,aj,aw (by omega)]
 ·unfold xZ
  try dsimp only
  rw[aF (by omega)]
def Lh(hv:Fcs pts F)(hn:1000<n):KE n pts F=some ((sE F).foldl KO []):=by
 have hfl:=hv.rv;unfold KE;rw[aj];have:bL (w5 n F) n (0,[])=some ((sE F).foldl KO []):=by
  refine yA (B:=w5 n F) (len:=F.length) (g:=fun f=>fE (ak F f) f) (fun i s hi=>?_) (fun s=>?_) (by omega)
  ·obtain⟨h9,h40⟩:=iG hv i;unfold w5
   try dsimp only
   rw[aH (by omega),aC hi,bf,bM (iN hi),aj]
   try dsimp only
   rw[ml n hv hn,aj,J5 n h9 h40 hn,aj,aw (by omega)]
  ·unfold w5
   try dsimp only
   rw[aF (by omega)]
 rw[this]; rfl
def zU(hv:Fcs pts F):∀e∈sE F,Sx pts.length e:=fun e he=>by
 have h1:=rO hv (U8 _) e he;obtain⟨f,r,k,hf,_,_,rfl⟩:=vI (U8 _) e he;have hfl:=hv.rv;refine⟨h1.1,h1.2.1,fun c=>h1.2.2 (by rw[c]),?_,?_⟩
 show(0:Int)<=(f:Int); omega
 show(f:Int)<64; omega
def tC(E:YB Ed)(i k:Nat):YB dm:=if 0<=fc E i k\/0<=fc E k i then[((i:Int),(k:Int),fc E i k,fc E k i)] else[]
def kn(E:YB Ed)(N:Nat):YB dm:=acc (fun i=>acc (fun j=>tC E i (i+1+j)) (N-(i+1))) N
def Ho{E:YB Ed}{i k:Nat}:(tC E i k).length<=1:=by unfold tC; split<;>simp
def lD{E:YB Ed}{i k:Nat}{x:dm}:x∈tC E i k↔(0<=fc E i k\/0<=fc E k i)/\x=((i:Int),(k:Int),fc E i k,fc E k i):=by
 unfold tC
 split
 rename_i h; rw[Vb]; exact⟨fun e=>⟨h,e⟩,fun e=>e.2⟩
 rename_i h; exact⟨fun e=>(by cases e),fun e=>Vr e.1 h⟩
def yY{α:Type}{g:Nat->YB α}{x:α}:∀{k i:Nat},i<k->x∈g i->x∈acc g k
 | k+1,i,hi,h=>by
  rw[acc,Vq]
  by_cases c:i=k
  exact .inr (by rw[<-c]; exact h)
  exact .inl (yY (by omega) h)
def po{E:YB Ed}{N:Nat}{x:dm}:x∈kn E N↔∃i k:Nat,i<k/\k<N/\(0<=fc E i k\/0<=fc E k i)/\x=((i:Int),(k:Int),fc E i k,fc E k i):=by
 unfold kn;constructor
 intro h;obtain⟨i,hi,h⟩:=fV h;obtain⟨j,hj,h⟩:=fV h;exact⟨i,i+1+j,by omega,by omega,lD.1 h⟩
 rintro⟨i,k,h1,h2,h3⟩;refine yY (i:=i) (by omega) (yY (i:=k-(i+1)) (by omega) ?_)
 rw[show i+1+(k-(i+1))=k by omega]
 exact lD.2 h3
def QG(x y:dm):Prop:=x.1<y.1\/x.1=y.1/\x.2.1<y.2.1
def vv{α:Type}{R:α->α->Prop}{g:Nat->YB α}(h1:∀i,(g i).Pairwise R)(h2:∀i j,i<j->∀x∈g i,∀y∈g j,R x y):∀k,(acc g k).Pairwise R
 | 0=>.nil
 | k+1=>by
  rw[acc,Wd];refine⟨vv h1 h2 k,h1 k,fun x hx y hy=>?_⟩;obtain⟨i,hi,h⟩:=fV hx;exact h2 i k hi x h y hy
def zC(E:YB Ed)(N:Nat):(kn E N).Pairwise QG:=by
 refine vv (fun i=>vv (fun j=>?_) (fun j j' hj x hx y hy=>?_) _) (fun i i' hi x hx y hy=>?_) N
 unfold tC; split
 exact List.pairwise_singleton _ _
 exact .nil
 rw[(lD.1 hx).2,(lD.1 hy).2];exact .inr ⟨rfl,by show((i+1+j:Nat):Int)<((i+1+j':Nat):Int); omega⟩
 obtain⟨j,_,hx⟩:=fV hx;obtain⟨j',_,hy⟩:=fV hy;rw[(lD.1 hx).2,(lD.1 hy).2];exact .inl (by show(i:Int)<(i':Int); omega)
def tZ(E:YB Ed){N:Nat}(hN:N<=120):(kn E N).length<=120*120:=by
 have h1:=kL (g:=fun i=>acc (fun j=>tC E i (i+1+j)) (N-(i+1))) (b:=120) (k:=N) fun i _=>by
  have:=kL (g:=fun j=>tC E i (i+1+j)) (b:=1) (k:=N-(i+1)) fun j _=>Ho;omega
 have h2:N*120<=120*120:=V1 _ hN;unfold kn; omega
def ne_of_lt{x y:dm}(h:QG x y):x≠y:=fun e=>by subst e; unfold QG at h; omega
def Ge(E:YB Ed)(N:Nat):(kn E N).Nodup:=(zC E N).imp ne_of_lt
def Eo{N:Nat}{E:YB Ed}{m:YB ((Int×Int)×dm)}(h:Wm N E m){p:(Int×Int)×dm}(hp:p∈m):p.2=(p.1.1,p.1.2,fc E p.1.1 p.1.2,fc E p.1.2 p.1.1)/\(0<=fc E p.1.1 p.1.2\/0<=fc E p.1.2 p.1.1)/\0<=p.1.1/\p.1.1<p.1.2/\p.1.2<N:=by
 have h1:=h.rg p.1 (Vi.2 ⟨p,hp,rfl⟩);have h2:=(oz h.nd (k:=p.1) (v:=p.2)).2 hp;have h3:=h.get p.1.1 p.1.2 h1.2.1;rw[show bR m (p.1.1,p.1.2)=some p.2 from h2] at h3
 split at h3
 rename_i c;exact⟨U9 h3,c,h1⟩
 cases h3
def FI{N:Nat}{E:YB Ed}{m:YB ((Int×Int)×dm)}(h:Wm N E m):(m.map Prod.snd).Perm (kn E N):=by
 have hnd:(m.map Prod.snd).Nodup:=by
  have e:(m.map Prod.snd).map (fun x:dm=>(x.1,x.2.1))=m.map Prod.fst:=by
   rw[Xh];refine List.map_congr_left fun p hp=>?_
   show(p.2.1,p.2.2.1)=p.1
   rw[(Eo h hp).1]
  have:=h.nd;rw[<-e] at this;exact List.Pairwise.of_map _ (fun a b hab c=>hab (by rw[c])) this
 refine(List.perm_ext_iff_of_nodup hnd (Ge E N)).2 fun x=>?_;rw[po,Vi];constructor
 rintro⟨p,hp,rfl⟩;obtain⟨h1,h2,h3,h4,h5⟩:=Eo h hp;refine⟨p.1.1.toNat,p.1.2.toNat,by omega,by omega,?_⟩
 rw[Ws h3,Ws (by omega)]
 exact⟨h2,h1⟩
 rintro⟨i,k,h1,h2,h3,rfl⟩;refine⟨(((i:Int),(k:Int)),_),(oz h.nd).1 (?_:bR m ((i:Int),(k:Int))=some ((i:Int),(k:Int),fc E i k,fc E k i)),rfl⟩;rw[h.get _ _ (by omega),U5 h3]
def Pq(hv:Fcs pts F):G4 n pts F=some (kn (sE F) pts.length):=by
 have hw:=Q9 (sE F) (zU hv);have hN:=hv.len;unfold G4;rw[Lh 100000 hv (by decide),aj]
 generalize(sE F).foldl KO []=m at *;have hp:=FI hw;have hlen:(m.map Prod.snd).length<=120*120:=by rw[hp.length_eq]; exact tZ _ hN.2
 have ho:rJ (kn (sE F) pts.length)=true:=by
  unfold rJ;rw[Va];refine⟨Vo.2 fun x hx=>?_,Vc ?_⟩
  obtain⟨i,k,h1,h2,_,rfl⟩:=po.1 hx;simp only[Va,Vm];omega
  refine List.Pairwise.map _ (fun x y hxy e=>?_) (zC (sE F) pts.length);have e1:x.1=y.1:=(Prod.mk.inj e).1;have e2:x.2.1=y.2.1:=(Prod.mk.inj e).2;unfold QG at hxy;omega
 have ho':=xE hp ho;rw[show(m.map fun x=>x.2)=m.map Prod.snd from rfl,ho',bo (by rw[Vf] at hlen; omega)]
 show some _=some _
 refine Vs some ?_;rw[xD ho',xB hp ho];exact List.mergeSort_of_pairwise ((zC _ _).imp fun{x y} h=>by unfold QG at h; unfold eK; exact Vc (by omega))
end
end Go.Proofs.Ytmndpgfbkicndaa
end
section
namespace Jd
abbrev Eg:=I2×I2
def bU{α:Type}(f:α->Int):YB α->Int
 | []=>0
 | a::l=>f a+bU f l
section
variable{α β:Type}
def kH(f:α->Int):∀(l k:YB α),bU f (l++k)=bU f l+bU f k
 | [],k=>by simp[bU]
 | a::l,k=>by rw[WY,bU,bU,kH f l k]; omega
def ba{f g:α->Int}:∀{l:YB α},(∀a∈l,f a=g a)->bU f l=bU g l
 | [],_=>rfl
 | a::l,h=>by rw[bU,bU,h a Vp,ba fun b hb=>h b (Ve _ hb)]
def ju(f g:α->Int):∀(l:YB α),bU (fun a=>f a+g a) l=bU f l+bU g l
 | []=>rfl
 | a::l=>by rw[bU,bU,bU,ju f g l]; omega
def jz(c:Int)(f:α->Int):∀(l:YB α),bU (fun a=>c*f a) l=c*bU f l
 | []=>by simp[bU]
 | a::l=>by rw[bU,bU,jz c f l,Xu]
def yJ(f:α->Int)(l:YB α):bU (fun a=>-f a) l = -bU f l:=by
 have:=jz (-1) f l;rw[show(fun a=>-1*f a)=fun a=>-f a from funext fun a=>by omega] at this
 omega
def cO{f:α->Int}:∀{l:YB α},(∀a∈l,f a=0)->bU f l=0
 | [],_=>rfl
 | a::l,h=>by rw[bU,h a Vp,cO fun b hb=>h b (Ve _ hb)]; rfl
def eZ(f:β->Int)(g:α->β):∀(l:YB α),bU f (l.map g)=bU (fun a=>f (g a)) l
 | []=>rfl
 | a::l=>by rw[V6,bU,bU,eZ f g l]
def qH(f:β->Int)(g:α->YB β):∀(l:YB α),bU f (l.flatMap g)=bU (fun a=>bU f (g a)) l
 | []=>rfl
 | a::l=>by rw[VY,kH,bU,qH f g l]
def zQ{f:α->Int}{a:α}:∀{l:YB α},l.Nodup->a∈l->(∀b∈l,b≠a->f b=0)->bU f l=f a
 | [],_,h,_=>by cases h
 | b::l,hd,hm,hz=>by
  obtain⟨h1,h2⟩:=Ww.1 hd;rw[bU];rcases Vu.1 hm with rfl|hm
  rw[cO fun c hc=>hz c (Ve _ hc) fun e=>h1 (e▸hc)]; omega
  rw[hz b Vp fun e=>h1 (e▸hm),zQ h2 hm fun c hc=>hz c (Ve _ hc)]; omega
def lz(f:α->β->Int)(l:YB α):∀(k:YB β),bU (fun a=>bU (f a) k) l=bU (fun b=>bU (fun a=>f a b) l) k
 | []=>cO fun _ _=>rfl
 | b::k=>by
  rw[bU,<-lz f l k,<-ju]
  rfl
def Ig{f:α->Int}:∀{l:YB α},(∀a∈l,0<=f a)->0<=bU f l
 | [],_=>Int.le_refl 0
 | a::l,h=>by
  rw[bU];have:=h a Vp;have:=Ig fun b hb=>h b (Ve _ hb);omega
def CI{f:α->Int}{a:α}:∀{l:YB α},(∀a∈l,0<=f a)->a∈l->f a<=bU f l
 | [],_,h=>by cases h
 | b::l,h,hm=>by
  rw[bU];rcases Vu.1 hm with rfl|hm
  have:=Ig fun b hb=>h b (Ve _ hb);omega
  have:=h b Vp;have:=CI (fun b hb=>h b (Ve _ hb)) hm;omega
def dG(f:Nat->Int):∀n,aY n f=bU f (List.range n)
 | 0=>rfl
 | n+1=>by rw[WS,kH,aY,dG f n,bU,bU]; omega
def jd{X:α->Rat}{P:α->Prop}:∀{l:YB α},(∃a,a∈l/\P a)->∃a,a∈l/\P a/\∀b∈l,P b->X a<=X b
 | [],h=>by obtain⟨a,h,_⟩:=h; cases h
 | c::l,h=>by
  by_cases hl:∃a,a∈l/\P a
  obtain⟨a,h1,h2,h3⟩:=jd (X:=X) hl
  by_cases hc:P c/\X c<=X a
  refine⟨c,Vp,hc.1,fun b hb hP=>?_⟩;rcases Vu.1 hb with rfl|hb
  exact Rat.le_refl
  exact Rat.le_trans hc.2 (h3 b hb hP)
  refine⟨a,Ve _ h1,h2,fun b hb hP=>?_⟩;rcases Vu.1 hb with rfl|hb
  have:¬X b<=X a:=fun h=>hc ⟨hP,h⟩
  grind
  exact h3 b hb hP
  obtain⟨a,h1,h2⟩:=h;rcases Vu.1 h1 with rfl|h1
  refine⟨a,Vp,h2,fun b hb hP=>?_⟩;rcases Vu.1 hb with rfl|hb
  exact Rat.le_refl
  exact Vr ⟨b,hb,hP⟩ hl
  exact Vr ⟨a,h1,h2⟩ hl
end
def cp(r:YB I2):YB Eg:=(List.range r.length).map fun i=>(nx r i,nx r (i+1))
def wr(E:YB Eg)(p:P2):Int:=bU (fun e=>we (ca e.1) (ca e.2) p) E
def sH(r:YB I2)(p:P2):wr (cp r) p=W r.length (fun i=>ca (nx r i)) p:=by
 unfold wr cp W;rw[eZ,dG]
def de(e:Eg)(y:Rat):Int:=dd (ca e.1) (ca e.2) y
def sW(E:YB Eg)(y:Rat):Prop:=∀e∈E,(ca e.1).2≠y/\(ca e.2).2≠y
def Xc(e:Eg)(y X:Rat):Prop:=(∀q:P2,q.2=y->we (ca e.1) (ca e.2) q=if q.1<X then de e y else 0) /\
 (de e y≠0->∃t,0<t/\t<1/\cv (ca e.1) (ca e.2) t=(X,y))
open Classical in
noncomputable def xc (e:Eg) (y:Rat):Rat:=if h:∃X,Xc e y X then h.choose else 0
def sS{e:Eg}{y:Rat}(h1:(ca e.1).2≠y)(h2:(ca e.2).2≠y):Xc e y (xc e y):=by
 have h:∃X,Xc e y X:=BJ h1 h2;unfold xc;rw[dif_pos h];exact h.choose_spec
def HG{u w q:P2}{t X y:Rat}(h:cv u w t=(X,y))(hq:q.2=y):tn u w q=(w.2-u.2)*(X-q.1):=by
 unfold cv at h;have a:=Vs Prod.fst h;have b:=Vs Prod.snd h;unfold tn
 dsimp only at a b
 rw[hq]
 grind
def iu{E:YB Eg}{y:Rat}(hE:sW E y){q:P2}(hq:q.2=y):wr E q=bU (fun e=>if q.1<xc e y then de e y else 0) E :=
 ba fun e he=>(sS (hE e he).1 (hE e he).2).1 q hq
def SD(E:YB Eg)(p:P2):Prop:=∀e∈E,de e p.2≠0->p.1≠xc e p.2
def q5{E:YB Eg}{p:P2}{X:Rat}(hE:sW E p.2)(hp:p.1<X)(hmin:∀e∈E,de e p.2≠0->p.1<xc e p.2->X<=xc e p.2) :
  wr E p=wr E (X,p.2)+bU (fun e=>if xc e p.2=X then de e p.2 else 0) E:=by
 rw[iu hE rfl,iu hE (q:=(X,p.2)) rfl,<-ju];refine ba fun e he=>?_
 by_cases hd:de e p.2=0
 rw[hd]; simp
 have:=hmin e he hd
 dsimp only
 by_cases h1:p.1<xc e p.2
 have h2:=this h1;rw[U5 h1]
 by_cases h3:xc e p.2=X
 rw[U5 h3,U3 (by rw[h3]; grind)]; omega
 rw[U3 h3,U5 (by grind)]; omega
 rw[U3 h1,U3 (by grind),U3 (by grind)]; rfl
def u1{E:YB Eg}{p:P2}(hE:sW E p.2)(h:wr E p≠0):∃e,e∈E/\de e p.2≠0/\p.1<xc e p.2:=by
 refine U6 fun hc=>h ?_;rw[iu hE rfl];refine cO fun e he=>?_
 by_cases hd:de e p.2=0
 rw[hd]; simp
 exact U3 fun hx=>hc ⟨e,he,hd,hx⟩
def N2{r:YB I2}(h:VR r){s:Int}(g:Sg r s)(hs:s=1\/s = -1):(0<fw r->s=1)/\(fw r<0->s = -1):=by
 obtain⟨K,K0,hK⟩:=(Lg.all (n:=r.length) (P:=fun i K=>-K<(nx r i).1/\(nx r i).1<K/\-K<(nx r i).2/\(nx r i).2<K) fun i _ =>
  (Lg.ge (max (max (nx r i).1 (-(nx r i).1)) (max (nx r i).2 (-(nx r i).2))+1)).imp fun K h=>by omega).get
 have hb:∀i,Inb (-K) (-K) (2*K).toNat (2*K).toNat (nx r i):=fun i=>by
  have:=hK (i%r.length) (VM _ (by have:=h.n3; omega))
  rw[jh r (Nat.mod_mod i r.length)] at this;exact⟨by omega,by omega,by omega,by omega⟩
 have e:=qK hb;have key:∀p,(s=1->0<=Jd.cJ r p+fu r p)/\(s = -1->Jd.cJ r p+fu r p<=0):=fun p=>by
  have a:=g.CD h p;have b:=g.Hf h p;omega
 constructor
 intro ha;refine hs.resolve_right fun hs=>?_;have:bx (-K) (-K) (2*K).toNat (2*K).toNat (fun p=>Jd.cJ r p+fu r p)<=0:=kz fun i _=>kz fun j _=>(key _).2 hs;omega
 intro ha;refine hs.resolve_left fun hs=>?_;have:bx (-K) (-K) (2*K).toNat (2*K).toNat (fun p=>-(Jd.cJ r p+fu r p))<=0:=kz fun i _=>kz fun j _=>by have:=(key (-K+i,-K+j)).1 hs; dsimp only; omega
 rw[y6] at this;omega
def vZ{r:YB I2}(h:VR r):∃s:Int,(s=1\/s = -1)/\(0<fw r->s=1)/\(fw r<0->s = -1)/\Sg r s /\
  ∀p:P2,sW (cp r) p.2->SD (cp r) p->wr (cp r) p=0\/wr (cp r) p=s:=by
 obtain⟨s,hs,hm⟩:=h.simple.sign;have g:Sg r s:=h.Kf hm;have:=N2 h g hs;refine⟨s,hs,this.1,this.2,g,fun p hg ho=>?_⟩;rw[sH];refine hm p fun i hi hl=>?_;have he:(nx r i,nx r (i+1))∈cp r:=Vi.2 ⟨i,Vy.2 hi,rfl⟩;obtain⟨g1,g2⟩:=hg _ he
 dsimp only at g1 g2
 have hd:de (nx r i,nx r (i+1)) p.2≠0:=by
  unfold de dd
  dsimp only
  rcases hl with⟨a,b⟩|⟨a,b⟩
  rw[U5 ⟨by grind,b⟩]; decide
  rw[U3 (by grind),U5 ⟨by grind,b⟩]; decide
 obtain⟨t,t0,t1,ht⟩:=(sS (e:=(nx r i,nx r (i+1))) g1 g2).2 hd;have hx:=ho _ he hd;rw[HG ht rfl]
 dsimp only
 intro h0;have h3:xc (nx r i,nx r (i+1)) p.2-p.1≠0:=by grind
 rcases Rat.mul_eq_zero.1 h0 with k|k
 grind
 exact h3 k
def yC(a b:I2):Lx a b\/Lx b a:=by unfold Lx; omega
def AY{a b x:I2}(h:cD a b x):0<=di a x b:=by
 obtain⟨_,h1,h2,h3,h4⟩:=h;have key:∀{a b x:Int},min a b<=x->x<=max a b->0<=(x-a)*(b-x):=fun{a b x} g1 g2=>by
  rcases Int.le_total a b with g|g
  exact VP (by omega) (by omega)
  exact Wb (by omega) (by omega)
 have:=key h1 h2;have:=key h3 h4;unfold di; omega
def xM{x u w:I2}(h0:ti x u w=0)(hd:di x u w<0)(hx:x≠u)(hw:u≠w):cD u w x\/cD x u w:=by
 have r1:ti u w x=0:=by rw[uz]; exact h0
 have r2:ti w x u=0:=by rw[uz]; exact r1
 have r3:ti x w u=0:=by rw[dU]; omega
 have r4:ti u x w=0:=by rw[dU]; omega
 have r5:ti w u x=0:=by rw[dU]; omega
 rcases yC u x with a|a<;>rcases yC u w with b|b
 rcases yC x w with c|c
 exact .inl ((qp hw b).2 ⟨r1,a,c⟩)
 exact .inr ((qp (Ne.symm hx) a).2 ⟨r4,b,c⟩).swap
 by_cases e:w=x
 subst e; exact .inl (mP _ _)
 have h:Lx w x:=by unfold Lx at *; omega
 exact Vr (AY ((qp e h).2 ⟨r2,b,a⟩).swap) (by omega)
 by_cases e:x=w
 subst e; exact .inl (mP _ _)
 have h:Lx x w:=by unfold Lx at *; omega
 exact Vr (AY ((qp e h).2 ⟨r3,a,b⟩)) (by omega)
 rcases yC x w with c|c
 exact .inr ((qp hx a).2 ⟨h0,c,b⟩)
 exact .inl ((qp (Ne.symm hw) b).2 ⟨r5,c,a⟩).swap
def SF(a b c:I2):dt (ca a) (ca b) (ca c)=((di a b c:Int):Rat):=by
 unfold dt ca di;simp only[Rat.intCast_sub,Wu,Xm]
def mu{x u w:I2}(hx:x≠u)(hw:u≠w)(h:k5 x u u w≠3){t s:Rat}(t0:0<t)(s0:0<s):Sep (ca x) (ca u) (cv (ca u) (ca w) t) (cv (ca u) (ca w) s):=by
 refine Cq ?_ t0 s0
 by_cases h0:ti x u w=0
 right
 rw[SF,eJ];refine GM hx hw h0 fun hd=>h ?_;have:∃y z,gO x u u w y/\gO x u u w z/\y≠z:=by
  rcases xM h0 hd hx hw with g|g
  exact⟨x,u,⟨.inl rfl,mQ _ _,g⟩,⟨.inr (.inl rfl),mP _ _,mQ _ _⟩,hx⟩
  exact⟨u,w,⟨.inr (.inl rfl),mP _ _,mQ _ _⟩,⟨.inr (.inr (.inr rfl)),g,mP _ _⟩,hw⟩
 unfold k5;rw[U5 this]
 left
 rw[mK];exact fun e=>h0 (by have:=Rat.intCast_inj (a:=ti x u w) (b:=0); simpa using e)
def ug(a b:P2)(t:Rat):cv a b t=cv b a (1-t):=by unfold cv; exact VN (by dsimp only; grind) (by dsimp only; grind)
def oR(a b c d:I2):k5 a b d c=k5 a b c d:=by
 rw[tR (a:=d) (b:=c) (c:=a) (d:=b),nU,tR]
def HI{a b c d:I2}(hab:a≠b)(hcd:c≠d)(h:k5 a b c d=0\/k5 a b c d=1/\(a=c\/a=d\/b=c\/b=d)){t s:Rat}(t0:0<t)(t1:t<1)(s0:0<s)(s1:s<1) :
  Sep (ca a) (ca b) (cv (ca c) (ca d) t) (cv (ca c) (ca d) s):=by
 rcases h with h|⟨h,e|e|e|e⟩
 have m:=zu.1 h;exact El (qF hab hcd m.1 m.2) (by grind) (by grind) (by grind) (by grind)
 subst e;exact(mu (Ne.symm hab) hcd (by rw[nU,h]; decide) t0 s0).ab
 subst e;rw[ug _ _ t,ug _ _ s];exact(mu (Ne.symm hab) (Ne.symm hcd) (by rw[nU,oR,h]; decide) (by grind) (by grind)).ab
 subst e;exact mu hab hcd (by rw[h]; decide) t0 s0
 subst e;rw[ug _ _ t,ug _ _ s];exact mu hab (Ne.symm hcd) (by rw[oR,h]; decide) (by grind) (by grind)
def Hs{a b p:P2}{t:Rat}(h:Sep a b p p)(e:cv a b t=p)(t0:0<=t)(t1:t<=1):False:=by
 obtain⟨α,β,γ,h1,h2,h3,_⟩:=h;have:af α β γ p=(1-t)*af α β γ a+t*af α β γ b:=by rw[<-e]; unfold af cv; grind
 by_cases g:t=0
 subst g; grind
 have:=bt (show 0<t by grind) h2
 have:=cb (show 0<=1-t by grind) (show 0<=af α β γ a by grind)
 grind
structure Fce where
 o:YB I2
 hs:YB (YB I2)
def Fce.es(f:Fce):YB Eg:=(f.o::f.hs).flatMap cp
def Md(e:Eg):P2:=cv (ca e.1) (ca e.2) (1/2)
def jL(e:Eg):I2:=(e.1.1+e.2.1,e.1.2+e.2.2)
def jV(r:YB I2)(e:Eg):Prop:=∀g∈cp r,¬cD (bK 2 g.1) (bK 2 g.2) (jL e)
def wM(r:YB I2)(e:Eg):Int:=wr (cp r) (Md e)
def OZ(f:Fce)(e:Eg):Prop:=(jV f.o e/\wM f.o e≠0)/\∀h∈f.hs,jV h e/\wM h e=0
structure CxOk(fs:YB Fce):Prop where
 ro:∀f∈fs,VR f.o/\0<fw f.o
 rh:∀f∈fs,∀h∈f.hs,VR h/\fw h<0
 nd:(fs.flatMap Fce.es).Nodup
 A7:∀e∈fs.flatMap Fce.es,∀g∈fs.flatMap Fce.es,g≠e->g≠(e.2,e.1)->k5 g.1 g.2 e.1 e.2=0\/k5 g.1 g.2 e.1 e.2=1/\(g.1=e.1\/g.1=e.2\/g.2=e.1\/g.2=e.2)
 hole:∀f∈fs,∀k (hk:k<f.hs.length),∀e∈cp f.hs[k],(jV f.o e/\wM f.o e≠0)/\∀j (hj:j<f.hs.length),j≠k->jV f.hs[j] e/\wM f.hs[j] e=0
 over:∀i j (hi:i<fs.length) (hj:j<fs.length),i≠j->∀e∈fs[i].es,¬OZ fs[j] e
def kl{r:YB I2}(h:VR r){e:Eg}(he:e∈cp r):e.1≠e.2:=by
 obtain⟨i,_,rfl⟩:=Vi.1 he;exact h.still i
def Ep{r:YB I2}(h:VR r){p q:P2}(hs:∀e∈cp r,Sep (ca e.1) (ca e.2) p q):wr (cp r) p=wr (cp r) q:=by
 rw[sH,sH];exact yL h.simple.cl fun i hi=>hs _ (Vi.2 ⟨i,Vy.2 hi,rfl⟩)
def Lk{a b:I2}{e:Eg}(hab:a≠b)(h:Sep (ca a) (ca b) (Md e) (Md e)):¬cD (bK 2 a) (bK 2 b) (jL e):=by
 intro hb;obtain⟨α,β,γ,h1,h2,h3,_⟩:=h;have k:∀a:I2,af α β (2*γ) (ca (bK 2 a))=2*af α β γ (ca a):=fun a=>by
  unfold af ca bK;simp only[Wu];have:((2:Int):Rat)=2:=rfl;rw[this]; grind
 have hne:bK 2 a≠bK 2 b:=fun e=>hab ((jw (s:=2) (by decide)).inj e)
 have:=zk hne hb (α:=α) (β:=β) (γ:=2*γ) (by rw[k]; grind) (by rw[k]; grind)
 have e2:af α β (2*γ) (ca (jL e))=2*af α β γ (Md e):=by
  unfold af ca jL Md cv ca;simp only[Xm]
  grind
 grind
section
variable{fs:YB Fce}
def H8{f:Fce}{r:YB I2}(hr:r=f.o\/r∈f.hs){e:Eg}(he:e∈cp r):e∈f.es:=by
 unfold Fce.es;refine VI.2 ⟨r,?_,he⟩;rcases hr with rfl|hr
 exact Vp
 exact Ve _ hr
def Ky{f:Fce}{e:Eg}(he:e∈f.es):∃r,(r=f.o\/r∈f.hs)/\e∈cp r:=by
 obtain⟨r,h1,h2⟩:=VI.1 he;exact⟨r,Vu.1 h1,h2⟩
def EI{f:Fce}(hf:f∈fs){e:Eg}(he:e∈f.es):e∈fs.flatMap Fce.es:=VI.2 ⟨f,hf,he⟩
def IT(r:YB I2)(p:I2):cJ r p=bU (fun e=>wi e.1 e.2 p) (cp r):=by
 unfold cJ cp;rw[dG,eZ]
end
def sh(K:Int)(a:I2):I2:=(a.1,a.2+K*a.1)
section
variable{K:Int}
def p9(a b c:I2):ti (sh K a) (sh K b) (sh K c)=ti a b c:=by unfold ti sh; grind
def rH{a b:I2}(h:sh K a=sh K b):a=b:=by
 unfold sh at h;have h1:=Vs Prod.fst h;have h2:=Vs Prod.snd h
 dsimp only at h1 h2
 rw[h1] at h2;exact VN h1 (by omega)
def zZ(a:I2):sh (-K) (sh K a)=a:=by unfold sh; exact VN rfl (by dsimp only; rw[Int.neg_mul]; omega)
def DS{a b c:I2}(h:cD a b c):cD (sh K a) (sh K b) (sh K c):=by
 by_cases hab:a=b
 subst hab;have:c=a:=by
  obtain⟨_,h1,h2,h3,h4⟩:=h;exact VN (by omega) (by omega)
 subst this;exact mQ _ _
 obtain⟨w1,w2,D,p1,p2,p3,p4,p5,p6⟩:=Em hab h;obtain⟨h0,h1,h2,h3,h4⟩:=h;refine⟨by rw[p9]; exact h0,h1,h2,?_⟩
 have e:D*(sh K c).2=w1*(sh K a).2+w2*(sh K b).2:=by
  unfold sh
  dsimp only
  rw[Xu,Xu,Xu,show D*(K*c.1)=K*(D*c.1) by grind,p5,p6]
  grind
 generalize(sh K a).2=x at *;generalize(sh K b).2=z at *;generalize(sh K c).2=y at *;rcases Int.le_total x z with g|g
 have q1:=VP p2 (show 0<=z-x by omega)
 have q2:=VP p1 (show 0<=z-x by omega)
 have r1:D*(y-x)=w2*(z-x):=by rw[XA,e,<-p3]; grind
 have r2:D*(z-y)=w1*(z-x):=by rw[XA,e,<-p3]; grind
 have s1:¬y-x<0:=fun k=>by have:=WM p4 k; omega
 have s2:¬z-y<0:=fun k=>by have:=WM p4 k; omega
 omega
 have q1:=VP p2 (show 0<=x-z by omega)
 have q2:=VP p1 (show 0<=x-z by omega)
 have r1:D*(x-y)=w2*(x-z):=by rw[XA,e,<-p3]; grind
 have r2:D*(y-z)=w1*(x-z):=by rw[XA,e,<-p3]; grind
 have s1:¬x-y<0:=fun k=>by have:=WM p4 k; omega
 have s2:¬y-z<0:=fun k=>by have:=WM p4 k; omega
 omega
def rG{a b c:I2}:cD (sh K a) (sh K b) (sh K c)↔cD a b c :=
 ⟨fun h=>by have:=DS (K:=-K) h; rwa[zZ,zZ,zZ] at this,DS⟩
def DO{a b c d x:I2}:gO (sh K a) (sh K b) (sh K c) (sh K d) (sh K x)↔gO a b c d x:=by
 unfold gO;rw[rG,rG];constructor
 rintro⟨g,e⟩;exact⟨by rcases g with g|g|g|g<;>simp[rH g],e⟩
 rintro⟨g,e⟩;exact⟨by rcases g with g|g|g|g<;>simp[g],e⟩
def Ki{a b c d:I2}:vq (sh K a) (sh K b) (sh K c) (sh K d)↔vq a b c d:=by
 unfold vq;rw[p9,p9,p9,p9]
def RQ{a b c d:I2}:NM (sh K a) (sh K b) (sh K c) (sh K d)↔NM a b c d:=by
 rw[ze,ze,Ki];refine and_congr_left fun _=>⟨fun g x hx=>g (sh K x) (DO.2 hx),fun g x hx=>?_⟩;have:∃y,x=sh K y:=by
  rcases hx.1 with e|e|e|e<;>exact⟨_,e⟩
 obtain⟨y,rfl⟩:=this;exact g y (DO.1 hx)
def Sk{r:YB I2}(v:VR r):VR (r.map (sh K)):=by
 have hr:r≠[]:=v.ne_nil;refine⟨by rw[Vf]; exact v.n3,fun i=>?_,fun i=>?_,fun j i h1 h2 h3=>?_⟩
 rw[bh _ hr,bh _ hr];exact fun e=>v.still i (rH e)
 rw[bh _ hr,bh _ hr,bh _ hr,p9];rintro⟨e1,e2⟩;have n1:sh K (nx r i)≠sh K (nx r (i+1)):=fun e=>v.still i (rH e);have n2:sh K (nx r (i+1))≠sh K (nx r (i+2)):=fun e=>v.still (i+1) (rH e);rcases xM (by rw[p9]; exact e1) e2 n1 n2 with g|g
 have g:=rG.1 g;exact v.spike i (zG (p:=nx r i) (mQ _ _) g (v.still i))
 have g:=rG.1 g;exact v.spike i (zG (p:=nx r (i+2)) g (mP _ _) (Ne.symm (v.still (i+1))))
 rw[Vf] at h2 h3;rw[bh _ hr,bh _ hr,bh _ hr,bh _ hr,RQ];exact v.meet j i h1 h2 h3
def OG{r:YB I2}(h:r≠[]):fw (r.map (sh K))=fw r:=by
 unfold fw;rw[Vf];refine ay fun i _=>?_;rw[bh _ h,bh _ h];unfold sh; grind
def Gf(K:Int)(p v:I2):Int:=if v.2<=p.2/\(sh K p).2<(sh K v).2 then 1 else 0
def Of(K:Int)(a b p:I2):K*ti a b p=((a.2-p.2)+K*(a.1-p.1))*(b.2-p.2)-(a.2-p.2)*((b.2-p.2)+K*(b.1-p.1)):=by unfold ti; grind
def w0{x y z T:Int}(h:x<=z↔y<=z):(if x<=z/\z<y/\0<T then(1:Int) else if y<=z/\z<x/\T<0 then -1 else 0)=0:=by
 rw[XP,XP]
def wu{x y z T:Int}(h1:x<=z)(h2:z<y):(if x<=z/\z<y/\0<T then(1:Int) else if y<=z/\z<x/\T<0 then -1 else 0)=if 0<T then 1 else 0:=by
 by_cases h:0<T
 rw[U5 ⟨h1,h2,h⟩,U5 h]
 rw[XP,XP,U3 h]
def wd{x y z T:Int}(h1:z<x)(h2:y<=z):(if x<=z/\z<y/\0<T then(1:Int) else if y<=z/\z<x/\T<0 then -1 else 0)=if T<0 then -1 else 0:=by
 by_cases h:T<0
 rw[XP,U5 ⟨h2,h1,h⟩,U5 h]
 rw[XP,XP,U3 h]
def Rq{a b p:I2}(hK:0<K)(h:¬cD a b p):wi (sh K a) (sh K b) (sh K p)-wi a b p=Gf K p b-Gf K p a:=by
 have hs:=p9 (K:=K) a b p;have h0:∀{a b:I2},¬cD a b p->(a.2<=p.2/\p.2<b.2)->ti a b p≠0:=fun h g e=>h (iz (.inl g) e);have h1:∀{a b:I2},¬cD a b p->((sh K a).2<=(sh K p).2/\(sh K p).2<(sh K b).2)->ti a b p≠0:=fun h g e=>h (rG.1 (iz (.inl g) (by rw[p9]; exact e)))
 have key:∀{a b:I2},¬cD a b p->(a.2<=p.2\/p.2<b.2)->((a.2<=p.2↔b.2<=p.2)->((sh K a).2<=(sh K p).2\/(sh K p).2<(sh K b).2))->wi (sh K a) (sh K b) (sh K p)-wi a b p=Gf K p b-Gf K p a:=by
  intro a b h hu hr;have hs:=p9 (K:=K) a b p;have n0:=h0 h;have n1:=h1 h;have e:=Of K a b p;have pos:0<K*ti a b p↔0<ti a b p:=jB hK;have neg:K*ti a b p<0↔ti a b p<0:=fC hK;have zero:K*ti a b p=0↔ti a b p=0:=by rw[Wp]; omega
  unfold wi Gf;rw[hs];have ea:(sh K a).2-(sh K p).2=(a.2-p.2)+K*(a.1-p.1):=by unfold sh; grind
  have eb:(sh K b).2-(sh K p).2=(b.2-p.2)+K*(b.1-p.1):=by unfold sh; grind
  rw[<-ea,<-eb] at e;simp only[<-pos,<-neg];have n0':a.2<=p.2/\p.2<b.2->K*ti a b p≠0:=fun g k=>n0 g (zero.1 k);have n1':(sh K a).2<=(sh K p).2/\(sh K p).2<(sh K b).2->K*ti a b p≠0:=fun g k=>n1 g (zero.1 k);generalize K*ti a b p=T at *;clear pos neg zero n0 n1 h0 h1 hs ea eb;generalize(sh K a).2=A at *;generalize(sh K b).2=B at *;generalize(sh K p).2=P at *;have nn:∀{x y:Int},0<=x->0<=y->0<=x*y:=VP
  by_cases ua:a.2<=p.2
  by_cases ub:b.2<=p.2
  rw[w0 (x:=a.2) (by omega)]
  by_cases va:A<=P
  by_cases vb:B<=P
  rw[w0 (by omega),XP,XP]
  have g1:=nn (show 0<=P-A by omega) (show 0<=p.2-b.2 by omega)
  have g2:=nn (show 0<=p.2-a.2 by omega) (show 0<=B-P by omega)
  have:(A-P)*(b.2-p.2)-(a.2-p.2)*(B-P)=(P-A)*(p.2-b.2)+(p.2-a.2)*(B-P):=by grind
  have:=n1' ⟨va,by omega⟩
  rw[wu va (by omega),XQ,XQ,XP]
  rw[w0 (by omega),XQ,XQ]; rfl
  by_cases va:A<=P
  by_cases vb:B<=P
  have g1:=nn (show 0<=P-A by omega) (show 0<=b.2-p.2 by omega)
  have g2:=nn (show 0<=p.2-a.2 by omega) (show 0<=P-B by omega)
  have:(A-P)*(b.2-p.2)-(a.2-p.2)*(B-P) = -((P-A)*(b.2-p.2))-(p.2-a.2)*(P-B):=by grind
  rw[w0 (by omega),wu ua (by omega),XP,XP,XP]
  rw[wu va (by omega),wu ua (by omega),U3 (show ¬(b.2<=p.2/\P<B) by omega),U3 (show ¬(a.2<=p.2/\P<A) by omega)]; omega
  by_cases vb:B<=P
  have:=n0' ⟨ua,by omega⟩
  rw[wd (by omega) vb,wu ua (by omega),U3 (show ¬(b.2<=p.2/\P<B) by omega),U5 (show a.2<=p.2/\P<A by omega)]
  by_cases h:0<T
  rw[XP,U5 h]
  rw[XQ,U3 h]; rfl
  have g1:=nn (show 0<=A-P by omega) (show 0<=b.2-p.2 by omega)
  have g2:=nn (show 0<=p.2-a.2 by omega) (show 0<=B-P by omega)
  have:(A-P)*(b.2-p.2)-(a.2-p.2)*(B-P)=(A-P)*(b.2-p.2)+(p.2-a.2)*(B-P):=by grind
  have:=n0' ⟨ua,by omega⟩
  rw[w0 (by omega),wu ua (by omega),XQ,XP,XQ]
  have ub:¬b.2<=p.2:=by omega
  rw[w0 (x:=a.2) (by omega),U3 (show ¬(b.2<=p.2/\P<B) by omega),U3 (show ¬(a.2<=p.2/\P<A) by omega)]
  by_cases va:A<=P
  by_cases vb:B<=P
  rw[w0 (by omega)]
  have g1:=nn (show 0<=P-A by omega) (show 0<=b.2-p.2 by omega)
  have g2:=nn (show 0<=a.2-p.2 by omega) (show 0<=B-P by omega)
  have:(A-P)*(b.2-p.2)-(a.2-p.2)*(B-P) = -((P-A)*(b.2-p.2))-(a.2-p.2)*(B-P):=by grind
  rw[wu va (by omega),XP]
  rw[w0 (by omega)]
 by_cases hu:a.2<=p.2\/p.2<b.2
 by_cases hr:(a.2<=p.2↔b.2<=p.2)->((sh K a).2<=(sh K p).2\/(sh K p).2<(sh K b).2)
 exact key h hu hr
 have:=key (a:=b) (b:=a) (fun g=>h g.swap) (by omega) (by omega)
 rw[pc,pc a b] at this;omega
 have:=key (a:=b) (b:=a) (fun g=>h g.swap) (by omega) (by omega)
 rw[pc,pc a b] at this;omega
def MV{r:YB I2}(hK:0<K)(h:r≠[]){p:I2}(hp:∀i,i<r.length->¬cD (nx r i) (nx r (i+1)) p):cJ (r.map (sh K)) (sh K p)=cJ r p:=by
 have h1:=fU r.length (fun i=>wi (sh K (nx r i)) (sh K (nx r (i+1))) (sh K p)) fun i=>wi (nx r i) (nx r (i+1)) p;have h2:=j4 r.length fun i=>Gf K p (nx r i);rw[ay fun i hi=>Rq hK (hp i hi),h2,lN] at h1;have e:cJ (r.map (sh K)) (sh K p)=aY r.length fun i=>wi (sh K (nx r i)) (sh K (nx r (i+1))) (sh K p):=by
  unfold cJ;rw[Vf];exact ay fun i _=>by rw[bh _ h,bh _ h]
 unfold cJ at *;omega
end
def Mt(g e:Eg):Prop:=k5 g.1 g.2 e.1 e.2=0\/k5 g.1 g.2 e.1 e.2=1/\(g.1=e.1\/g.1=e.2\/g.2=e.1\/g.2=e.2)
def Mt.symm{g e:Eg}(h:Mt g e):Mt e g:=by
 unfold Mt at *;rw[tR];rcases h with h|⟨h,k⟩
 exact .inl h
 exact .inr ⟨h,by rcases k with k|k|k|k<;>simp[k]⟩
def Ei(e:Eg):cD (bK 2 e.1) (bK 2 e.2) (jL e):=by
 unfold cD ti bK jL;refine⟨by grind,?_⟩
 dsimp only
 omega
def jV.ph{r:YB I2}{e:Eg}(h:jV r e):e∉cp r/\(e.2,e.1)∉cp r:=by
 refine⟨fun k=>h e k (Ei e),fun k=>h _ k ?_⟩;have:=Ei (e.2,e.1);unfold jL at this ⊢;rw[Int.add_comm,Int.add_comm e.1.2];exact this
def oh{r:YB I2}(h:r≠[])(e:Eg):wM r e=cJ (r.map (bK 2)) (jL e):=by
 have hp:Md e=(((jL e).1:Rat)*(1/2),((jL e).2:Rat)*(1/2)):=by
  unfold Md cv jL ca;simp only[Xm];exact VN (by dsimp only; grind) (by dsimp only; grind)
 unfold wM cJ;rw[sH,Vf];refine ay fun i _=>?_;rw[hp,bh _ h,bh _ h];exact ui (N:=2) (by decide) (by have:((2:Int):Rat)=2:=rfl; rw[this]; grind) _ _ _
def FZ(φ:I2->I2)(e:Eg):Eg:=(φ e.1,φ e.2)
def kC(φ:I2->I2){r:YB I2}(h:r≠[]):cp (r.map φ)=(cp r).map (FZ φ):=by
 unfold cp;rw[Vf,Xh];exact List.map_congr_left fun i _=>by unfold FZ; dsimp only[Function.comp]; rw[bh _ h,bh _ h]
structure Mp(φ:I2->I2):Prop where
 inj:∀{a b},φ a=φ b->a=b
 how_eq:∀a b c d,k5 (φ a) (φ b) (φ c) (φ d)=k5 a b c d
 vr:∀{r},VR r->VR (r.map φ)
 ar:∃c:Int,0<c/\∀r,r≠[]->fw (r.map φ)=c*fw r
 btw:∀{a b c},cD (φ a) (φ b) (φ c)↔cD a b c
 g2:∀a,φ (bK 2 a)=bK 2 (φ a)
 pO:∀e:Eg,φ (jL e)=jL (FZ φ e)
 wnd:∀{r},VR r->∀{p},(∀i,i<r.length->¬cD (nx r i) (nx r (i+1)) p)->cJ (r.map φ) (φ p)=cJ r p
def uo{φ:I2->I2}(hc:∀{a b c d x},gO (φ a) (φ b) (φ c) (φ d) (φ x)↔gO a b c d x)(hi:∀{a b},φ a=φ b->a=b)(hk:∀{a b c d},vq (φ a) (φ b) (φ c) (φ d)↔vq a b c d)(a b c d:I2) :
  k5 (φ a) (φ b) (φ c) (φ d)=k5 a b c d:=by
 classical
 have im:∀{x},gO (φ a) (φ b) (φ c) (φ d) x->∃y,x=φ y:=fun{x} hx=>by rcases hx.1 with e|e|e|e<;>exact⟨_,e⟩
 have e1:(∃x y,gO (φ a) (φ b) (φ c) (φ d) x/\gO (φ a) (φ b) (φ c) (φ d) y/\x≠y)↔∃x y,gO a b c d x/\gO a b c d y/\x≠y:=by
  constructor
  rintro⟨x,y,hx,hy,hn⟩;obtain⟨x,rfl⟩:=im hx;obtain⟨y,rfl⟩:=im hy;exact⟨x,y,hc.1 hx,hc.1 hy,fun e=>hn (by rw[e])⟩
  rintro⟨x,y,hx,hy,hn⟩;exact⟨φ x,φ y,hc.2 hx,hc.2 hy,fun e=>hn (hi e)⟩
 have e2:(∃x,gO (φ a) (φ b) (φ c) (φ d) x)↔∃x,gO a b c d x:=by
  constructor
  rintro⟨x,hx⟩;obtain⟨x,rfl⟩:=im hx;exact⟨x,hc.1 hx⟩
  rintro⟨x,hx⟩;exact⟨φ x,hc.2 hx⟩
 unfold k5;simp only[e1,e2,hk]
def QL{K:Int}(hK:0<K):Mp (sh K) where
 inj:=rH
 how_eq:=uo DO rH Ki
 vr:=Sk
 ar:=⟨1,by decide,fun r h=>by rw[OG h]; omega⟩
 btw:=rG
 g2 a:=by unfold sh bK; exact VN rfl (by dsimp only; grind)
 pO e:=by unfold sh jL FZ; exact VN rfl (by dsimp only; grind)
 wnd v p hp:=MV hK v.ne_nil hp
def OI:Mp pX where
 inj:=oW.inj
 how_eq:=uo oW.Gt oW.inj oW.SQ
 vr:=oW.vr
 ar:=⟨1,by decide,fun r h=>by
  unfold fw;rw[Vf,Int.one_mul];exact ay fun i _=>by rw[bh _ h,bh _ h]; unfold pX; grind⟩
 btw:=zp
 g2 a:=by unfold pX bK; exact VN (by dsimp only; omega) (by dsimp only; omega)
 pO e:=by unfold pX jL FZ; exact VN (by dsimp only; omega) (by dsimp only; omega)
 wnd v p hp:=by rw[mY v.ne_nil,BW hp]
def Pn{N:Int}(hN:0<N)(a b p:I2):wi (bK N a) (bK N b) (bK N p)=wi a b p:=by
 have hNN:=Wq hN hN;unfold wi;rw[DD];simp only[jB hNN,fC hNN];unfold bK
 dsimp only
 have l:∀{x y:Int},x*N<y*N↔x<y:=fun{x y}=>by rw[<-Int.not_le,<-Int.not_le,k7 hN]
 simp only[k7 hN,l]
def zN{r:YB I2}(N:Int)(h:r≠[]):fw (r.map (bK N))=N*N*fw r:=by
 unfold fw;rw[Vf,<-lH];exact ay fun i _=>by rw[bh _ h,bh _ h]; unfold bK; grind
def Ob{N:Int}(hN:0<N):Mp (bK N) where
 inj:=(jw hN).inj
 how_eq:=uo (jw hN).Gt (jw hN).inj (jw hN).SQ
 vr:=(jw hN).vr
 ar:=⟨N*N,Wq hN hN,fun r h=>zN N h⟩
 btw:=DW hN
 g2 a:=by unfold bK; exact VN (by dsimp only; grind) (by dsimp only; grind)
 pO e:=by unfold bK jL FZ; exact VN (by dsimp only; grind) (by dsimp only; grind)
 wnd v p hp:=by
  unfold cJ;rw[Vf];exact ay fun i _=>by rw[bh _ v.ne_nil,bh _ v.ne_nil,Pn hN]
section
variable{φ:I2->I2}
def Mp.Sa(M:Mp φ){r:YB I2}(h:r≠[]){e:Eg}(ho:jV r e):jV (r.map φ) (FZ φ e):=by
 intro g hg;rw[kC φ h] at hg;obtain⟨g',hg',rfl⟩:=Vi.1 hg;unfold FZ
 dsimp only
 rw[<-M.g2,<-M.g2];have:=M.pO e;unfold FZ at this;rw[<-this,M.btw];exact ho g' hg'
def Oy(M:Mp φ)(r:YB I2):(r.map φ).map (bK 2)=(r.map (bK 2)).map φ:=by
 rw[Xh,Xh];exact List.map_congr_left fun a _=>(M.g2 a).symm
def Mp.oh(M:Mp φ){r:YB I2}(v:VR r){e:Eg}(ho:jV r e):wM (r.map φ) (FZ φ e)=wM r e:=by
 have h:=v.ne_nil;rw[Jd.oh (by simpa using h),Jd.oh h,Oy M,<-M.pO]
 have v2:=(jw (s:=2) (by decide)).vr v
 refine M.wnd v2 fun i hi=>?_;rw[Vf] at hi;rw[bh _ h,bh _ h];exact ho _ (Vi.2 ⟨i,Vy.2 hi,rfl⟩)
def Mp.mt(M:Mp φ){g e:Eg}(h:Mt g e):Mt (FZ φ g) (FZ φ e):=by
 unfold Mt FZ at *;rw[M.how_eq];rcases h with h|⟨h,k⟩
 exact .inl h
 exact .inr ⟨h,by rcases k with k|k|k|k<;>simp[k]⟩
end
structure Pr(o h:YB I2):Prop where
 vo:VR o
 ao:0<fw o
 vh:VR h
 ah:fw h<0
 mt:∀e∈cp h,∀g∈cp o,Mt g e
 PG:∀e∈cp h,jV o e/\wM o e≠0
def Pr.map{φ:I2->I2}{o h:YB I2}(M:Mp φ)(p:Pr o h):Pr (o.map φ) (h.map φ):=by
 obtain⟨c,c0,hc⟩:=M.ar;refine⟨M.vr p.vo,?_,M.vr p.vh,?_,fun e he g hg=>?_,fun e he=>?_⟩
 rw[hc _ p.vo.ne_nil]; exact Wq c0 p.ao
 rw[hc _ p.vh.ne_nil]; exact WM c0 p.ah
 rw[kC _ p.vo.ne_nil] at hg;rw[kC _ p.vh.ne_nil] at he;obtain⟨e',he',rfl⟩:=Vi.1 he;obtain⟨g',hg',rfl⟩:=Vi.1 hg;exact M.mt (p.mt e' he' g' hg')
 rw[kC _ p.vh.ne_nil] at he;obtain⟨e',he',rfl⟩:=Vi.1 he;have:=p.PG e' he';exact⟨M.Sa p.vo.ne_nil this.1,by rw[M.oh p.vo this.1]; exact this.2⟩
def uC(c:Int){α:Type}(f:α->Int)(l:YB α):bU (fun a=>f a*c) l=bU f l*c:=by
 rw[Int.mul_comm,<-jz];exact ba fun a _=>Int.mul_comm _ _
def He{E G:YB Eg}{y:Rat}(hn:∀e∈E,∀g∈G,de e y≠0->de g y≠0->xc e y≠xc g y)(gE:sW E y)(gG:sW G y)(x:Rat) :
  wr E (x,y)*wr G (x,y)=bU (fun e=>if x<xc e y then de e y*wr G (xc e y,y) else 0) E+bU (fun g=>if x<xc g y then de g y*wr E (xc g y,y) else 0) G:=by
 have e1:bU (fun g=>if x<xc g y then de g y*wr E (xc g y,y) else 0) G=bU (fun e=>bU (fun g=>if x<xc g y then de g y*(if xc g y<xc e y then de e y else 0) else 0) G) E:=by
  rw[lz];refine ba fun g _=>?_
  by_cases h:x<xc g y
  rw[U5 h,iu gE rfl,<-jz];exact ba fun e _=>by rw[U5 h]
  rw[U3 h,cO fun e _=>U3 h]
 have e2:bU (fun e=>if x<xc e y then de e y*wr G (xc e y,y) else 0) E=bU (fun e=>bU (fun g=>if x<xc e y then de e y*(if xc e y<xc g y then de g y else 0) else 0) G) E:=by
  refine ba fun e _=>?_
  by_cases h:x<xc e y
  rw[U5 h,iu gG rfl,<-jz];exact ba fun g _=>by rw[U5 h]
  rw[U3 h,cO fun g _=>U3 h]
 rw[e1,e2,<-ju,iu gE rfl,iu gG rfl,<-uC];refine ba fun e he=>?_;rw[<-jz,<-ju];refine ba fun g hg=>?_
 dsimp only
 by_cases h1:de e y=0
 rw[h1]; simp
 by_cases h2:de g y=0
 rw[h2]; simp
 have hne:=hn e he g hg h1 h2
 by_cases c1:x<xc e y
 by_cases c2:x<xc g y
 rw[U5 c1,U5 c2,U5 c1,U5 c2]
 by_cases c3:xc e y<xc g y
 rw[U5 c3,U3 (by grind)]; omega
 rw[U3 c3,U5 (by grind),Int.mul_comm]; omega
 rw[U5 c1,U3 c2,U5 c1,U3 c2,U3 (by grind)]; omega
 by_cases c2:x<xc g y
 rw[U3 c1,U3 c1,U5 c2,U5 c2,U3 (by grind)]; simp
 rw[U3 c1,U3 c1,U3 c2,U3 c2]; simp
end Jd
end
