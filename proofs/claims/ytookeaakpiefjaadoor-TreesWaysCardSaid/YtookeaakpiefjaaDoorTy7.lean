/- A part of the proof. -/
import Derived.Test.YtookeaakpiefjaaDoorTy6
section
namespace Go.Proofs.YtookeaakpiefjaaDoor
open Go Go.Ab Go.Ab.W Go.Ab.T30
def zX (n y4:Nat) (l1:List (Int × Int)) (v w c:Int) (l2:List (List (Bool × List Nat))):Option (List (List (Bool × List Nat))) :=
ob (some ((bZ l1 v).getD (0:Int),(bZ l1 v).isSome)) fun(y2,y5) =>
ob (some ((bZ l1 w).getD (0:Int),(bZ l1 w).isSome)) fun(y3,y6) =>
ob (
br (y5) (
some y6) (
some false)) fun v0 =>
br (v0) (
gd (bE y2 ((y4:Int).toNat)) (
ob (l2[y2.toNat]?) fun l3 =>
gd (decide (0<l3.length)) (
gd (bE y2 ((y4:Int).toNat)) (
ob (l2[y2.toNat]?) fun l4 =>
gd (decide (0<l4.length)) (
gd (bE y3 l4.length) (
ob (l4[y3.toNat]?) fun(x3,l5) =>
ob (w9 n c) fun(r0,l6) =>
ob (DW n x3 l5 r0 l6) fun(r1,l7) =>
gd (bE y3 l3.length) (
gd (Nat.blt y3.toNat l3.length) (
some (l2.set y2.toNat (l3.set y3.toNat (r1,l7))))))))))) (
some l2)
theorem yA (n:Nat) (es:List (Int × Int)) (x:Nat) (p:List Int) (O:List (Int × Bool)) (T:List (Int × Int)) (s:Nat) (i:Int) (L:List (List (Bool × List Nat))) :
  uq n es x p.length p O T s (i,L)=br (decide (i<(es.length:Int))) (gd (bE i es.length) (ob (es[i.toNat]?) fun e=>ob (ob (Jc n x e.1 e.2) fun q=>br q
   (ob (ob (ob (bG (CJ n p.length p) n e.1) fun v=>some v) fun va=>ob (ob (bG (Ca n p.length p) n e.2) fun v=>some v) fun vb =>
    ob (ob (some ((bZ O i).getD false)) fun y=>br y (some true) (some (decide (va=vb)))) fun t=>br t (some L)
     (ob (zX n s T va va 1 L) fun L1=>ob (zX n s T vb vb 1 L1) fun L2=>ob (zX n s T va vb (-1) L2) fun L3=>ob (zX n s T vb va (-1) L3) fun L4=>some L4)) fun L5=>some L5)
   (some L)) fun L6=>some (.inl (IntKind.wrap .i64 (i+1),L6)))) (some (.inr L)):=rfl
theorem qh {n s:Nat} (hn:100<n) {P:List Nat} (hP:P.length=s) {T:List (Int × Int)} (hT:∀v:Nat,bZ T (v:Int)=if v ∈ P then some ((P.idxOf v:Nat):Int) else none)
  {L:List (List (Bool × List Nat))} {M:Mt} {B:Nat} (hL:uy s L M) (hM:∀r c,r<s→c<s→(M r c).natAbs≤B) (hB:B<1000) {c:Int} {t:Bool} {k:List Nat} (hc:w9 n c=some (t,k)) (hg:Lg c t k) (hc1:c.natAbs≤1) (v w:Nat) :
  ∃L',zX n s T (v:Int) (w:Int) c L=some L'∧uy s L' (fun a b=>M a b+if a=P.idxOf v∧b=P.idxOf w then c else 0)∧∀r c',r<s→c'<s→(M r c'+if r=P.idxOf v∧c'=P.idxOf w then c else 0).natAbs≤B+1:=by
 have hbd:∀r c',r<s→c'<s→(M r c'+if r=P.idxOf v∧c'=P.idxOf w then c else 0).natAbs≤B+1:=fun r c' h1 h2=>by
  have:=hM r c' h1 h2
  split<;>omega
 by_cases h:v ∈ P∧w ∈ P
 ·have hv:P.idxOf v<s:=by rw[←hP]; exact List.idxOf_lt_length_iff.2 h.1
  have hw:P.idxOf w<s:=by rw[←hP]; exact List.idxOf_lt_length_iff.2 h.2
  obtain⟨row,t1,k1,a1,a2,a3,a4⟩:=hL.at hv hw;have l1:k1.length≤1:=a4.len (by have:=hM _ _ hv hw; show _<18446744073709551616; omega)
  have l2:k.length≤1:=hg.len (by show _<18446744073709551616; omega)
  obtain⟨u,q,u1,u2⟩:=GW (n:=n) a4 hg (by omega) (by omega) (by omega)
  refine⟨L.set (P.idxOf v) (row.set (P.idxOf w) (u,q)),?_,(hL.set hv hw a1 u2).congr fun a b _ _=>?_,hbd⟩
  ·unfold zX;rw[hT v,hT w,if_pos h.1,if_pos h.2];simp only[Option.getD_some,Option.isSome_some,ah,bI,Int.toNat_natCast];rw[aw hv,aD,a1,ah,cM (by omega),aD,ah,cM (by omega),a2,aw hw,aD,a3,ah]
   dsimp only
   rw[hc,ah]
   dsimp only
   rw[u1,ah]
   dsimp only
   rw[aD,Gd hw,aD]
  ·by_cases h1:a=P.idxOf v∧b=P.idxOf w
   ·rw[if_pos h1,if_pos h1,h1.1,h1.2]
   ·rw[if_neg h1,if_neg h1,Int.add_zero]
 ·refine⟨L,?_,hL.congr fun a b ha hb=>?_,hbd⟩
  ·unfold zX;rw[hT v,hT w]
   by_cases hv:v ∈ P
   ·have hw:w ∉ P:=fun e=>h ⟨hv,e⟩;rw[if_pos hv,if_neg hw]; rfl
   ·rw[if_neg hv]
    by_cases hw:w ∈ P
    ·rw[if_pos hw]; rfl
    ·rw[if_neg hw]; rfl
  ·have h1:¬(a=P.idxOf v∧b=P.idxOf w):=fun e=>h ⟨List.idxOf_lt_length_iff.1 (by rw[←e.1,hP]; exact ha),List.idxOf_lt_length_iff.1 (by rw[←e.2,hP]; exact hb)⟩
   rw[if_neg h1,Int.add_zero]
def ki (es:List (Int × Int)) (x:Nat) (O:List (Int × Bool)) (i:Nat):Bool:=eo es x (i:Int) && !(bZ O (i:Int)).getD false
def kl (es:List (Int × Int)) (x:Nat) (O:List (Int × Bool)) (i:Nat):List (Nat × Nat):=((List.range i).filter (ki es x O)).map fun(k:Nat)=>eg es (k:Int)
theorem ID (es:List (Int × Int)) (x:Nat) (O:List (Int × Bool)) (i:Nat):kl es x O (i+1)=if ki es x O i then kl es x O i++[eg es (i:Int)] else kl es x O i:=by
 unfold kl;rw[List.range_succ,List.filter_append,List.filter_cons]
 split<;>simp
theorem FB (es:List (Int × Int)) (x:Nat) (O:List (Int × Bool)) (i:Nat):(kl es x O i).length≤i:=by
 unfold kl;rw[List.length_map];have:=List.length_filter_le (ki es x O) (List.range i);rwa[List.length_range] at this
theorem wQ (φ:Nat→Nat) (e:Nat × Nat) (a b:Nat):∀E,iT φ (E++[e]) a b=iT φ E a b+dl φ e a*dl φ e b
 | []=>by simp[iT]
 | d::E=>by
  rw[List.cons_append];simp only[iT];rw[wQ φ e a b E];omega
theorem J4 (φ:Nat→Nat) (e:Nat × Nat) (a:Nat):dl φ e a=0∨dl φ e a=1∨dl φ e a = -1:=by
 unfold dl
 split<;>split<;>simp
theorem Bb (φ:Nat→Nat) (a b:Nat):∀E,(iT φ E a b).natAbs≤E.length
 | []=>by simp[iT]
 | d::E=>by
  have:=Bb φ a b E;simp only[iT,List.length_cons];rcases J4 φ d a with h|h|h<;>rcases J4 φ d b with h' | h' | h'<;>rw[h,h']<;>omega
theorem JD (m:Int) {p q u w:Prop} [Decidable p] [Decidable q] [Decidable u] [Decidable w] :
  m+(if p∧u then 1 else 0)+(if q∧w then 1 else 0)+(if p∧w then -1 else 0)+(if q∧u then -1 else 0)=m+((if p then 1 else 0)-(if q then 1 else 0))*((if u then 1 else 0)-(if w then 1 else 0)):=by
 by_cases hp:p<;>by_cases hq:q<;>by_cases hu:u<;>by_cases hw:w<;>simp[hp,hq,hu,hw]<;>try omega
theorem E1 {N:Nat} {es:List (Int × Int)} (h:Okay N es) {n x:Nat} (hx:x<2 ^ 64) (hn:200<n) {p:List Int} {r:Nat→Nat} (hp:Fst p r) (O:List (Int × Bool))
  {P:List Nat} {s:Nat} (hP:P.length=s) {T:List (Int × Int)} (hT:∀v:Nat,bZ T (v:Int)=if v ∈ P then some ((P.idxOf v:Nat):Int) else none)
  {L:List (List (Bool × List Nat))} (hL:uy s L fun _ _=>0) :
  ∃L',bG (uq n es x p.length p O T s) n (0,L)=some L'∧uy s L' (iT (fun v=>P.idxOf (r v)) (kl es x O es.length)):=by
 have hlen:=h.len;refine gE (body:=uq n es x p.length p O T s) es.length (fun(l:List (List (Bool × List Nat))) (v:Int)=>(v,l)) id (fun i l=>uy s l (iT (fun v=>P.idxOf (r v)) (kl es x O i))) (fun l i hi hI=>?_) (fun l _=>?_) (n:=n) hL (by omega)
 ·obtain⟨a,b,g1,g2,g3,g4,_,g5⟩:=eY h (k:=(i:Int)) ⟨by omega,by omega⟩
  rw[Int.toNat_natCast] at g1;have ha:a<64:=by omega
  have hin:eo es x (i:Int)=(x.testBit a && x.testBit b):=by
   simp only[eo,g2];rw[decide_eq_true ⟨by omega,by omega⟩,Bool.true_and]
  rw[yA,bB (by omega),aw hi,aD,Int.toNat_natCast,g1,ah]
  dsimp only
  rw[ko n x a b hx ha g4,ah,aH (by omega)]
  rw[ID];unfold ki;rw[hin,g2]
  by_cases h3:(x.testBit a && x.testBit b)=true
  ·rw[h3,bI,FM,ED,hp.root n a n ha (by omega),hp.root n b n g4 (by omega)]
   simp only[ah,Bool.true_and]
   by_cases h4:(bZ O (i:Int)).getD false=true
   ·rw[h4,bI,ah,bI,ah,ah];exact⟨l,rfl,hI⟩
   ·rw[Bool.not_eq_true] at h4;rw[h4,bK,ah,Bool.not_false,if_pos rfl]
    by_cases h5:r a=r b
    ·rw[bB (by omega),ah,ah]
     refine⟨l,rfl,hI.congr fun c d _ _=>?_⟩;rw[wQ];simp[dl,h5]
    ·rw[bf (by omega)]
     have hM:∀c d,c<s→d<s→(iT (fun v=>P.idxOf (r v)) (kl es x O i) c d).natAbs≤200:=fun c d _ _=>by
      have h1:=Bb (fun v=>P.idxOf (r v)) c d (kl es x O i);have h2:=FB es x O i;omega
     obtain⟨L1,m1,n1,b1⟩:=qh (n:=n) (by omega) hP hT hI hM (by omega) (wu (by omega)) AA (by decide) (r a) (r a)
     obtain⟨L2,m2,n2,b2⟩:=qh (n:=n) (by omega) hP hT n1 b1 (by omega) (wu (by omega)) AA (by decide) (r b) (r b)
     obtain⟨L3,m3,n3,b3⟩:=qh (n:=n) (by omega) hP hT n2 b2 (by omega) (CH (by omega)) Gu (by decide) (r a) (r b)
     obtain⟨L4,m4,n4,b4⟩:=qh (n:=n) (by omega) hP hT n3 b3 (by omega) (CH (by omega)) Gu (by decide) (r b) (r a)
     refine⟨L4,by rw[m1,ah,m2,ah,m3,ah,m4,ah,ah,ah],n4.congr fun c d _ _=>?_⟩
     rw[wQ];exact JD _
  ·rw[Bool.not_eq_true] at h3;rw[h3,bK,ah];exact⟨l,rfl,hI⟩
 ·rw[yA,bf (by omega)]; rfl
theorem tB {f:Nat→Int} {C:Nat}:∀n,(∀i,i<n→(f i).natAbs≤C)→(sm n f).natAbs≤n*C
 | 0,_=>by simp[sm]
 | n+1,h=>by
  have h1:=tB n fun i hi=>h i (by omega)
  have h2:=h n (by omega)
  simp only[sm];rw[Nat.add_mul,Nat.one_mul];omega
theorem DR (i:Nat) (x:Int):(sg i*x).natAbs=x.natAbs:=by
 unfold sg
 split<;>simp
theorem F5 {C N:Nat}:∀(n:Nat) (A:Mt),n≤N→(∀r c,r<n→c<n→(A r c).natAbs≤C)→(cx n A).natAbs≤(N*C) ^ n
 | 0,_,_,_=>by simp[cx]
 | n+1,A,hn,h=>by
  simp only[cx];have:=tB (C:=C*(N*C) ^ n) (n+1) (f:=fun i=>sg i*(A i 0*cx n (oY A i))) fun i hi=>by
   rw[DR,Int.natAbs_mul];exact Nat.mul_le_mul (h i 0 hi (by omega)) (F5 n (oY A i) (by omega) fun r c hr hc=>h _ _ (zQ hr) (by omega))
  refine Nat.le_trans ?_ (Nat.le_trans this ?_)
  ·refine Nat.le_of_eq (congrArg Int.natAbs (hJ fun i _=>?_));simp only[Int.mul_assoc]
  ·rw[Nat.pow_succ,Nat.mul_comm ((N*C) ^ n),←Nat.mul_assoc];exact Nat.mul_le_mul_right _ (Nat.mul_le_mul_right _ hn)
theorem CX (φ:Nat→Nat) (E:List (Nat × Nat)) (hE:E.length≤200) {k r c:Nat} (hk:k<64):(cx (k+1) (j4 (iT φ E) k r c)).natAbs<wp 15:=by
 have h1:=F5 (C:=200) (N:=64) (k+1) (j4 (iT φ E) k r c) (by omega) fun a b _ _=>Nat.le_trans (Bb φ _ _ E) hE
 have h2:(64*200) ^ (k+1)≤(64*200) ^ 64:=Nat.pow_le_pow_right (by decide) (by omega)
 have h3:(64*200) ^ 64<wp 15:=by decide
 omega
theorem Cb (x:Nat) (r:Nat→Nat) (g:Nat):(sF x r g 64).length≤64:=by
 unfold sF;have:=List.length_filter_le (J7 x r g) (List.range 64);rwa[List.length_range] at this
def rW (es:List (Int × Int)) (x:Nat) (W:List (Int × Bool)):Nat→Nat:=(wl es x W 0 es.length).foldl bP fun x=>x
def pW (es:List (Int × Int)) (x:Nat) (W:List (Int × Bool)):List Nat:=sF x (rW es x W) (rW es x W (tz x)) 64
def mW (es:List (Int × Int)) (x:Nat) (W O:List (Int × Bool)):Mt:=iT (fun v=>(pW es x W).idxOf (rW es x W v)) (kl es x O es.length)
theorem KZ {N:Nat} {es:List (Int × Int)} (h:Okay N es) {n x:Nat} (hx:x<2 ^ 64) (h0:0<x) (hn:300<n) (x1:Int) (W O:List (Int × Bool)) :
  (bj (fun x=>x) (wl es x W 0 es.length)=false→zU n x1 es x W O=some (false,[])) ∧
  (bj (fun x=>x) (wl es x W 0 es.length)=true→(∀k,k<(pW es x W).length→(cx k (mW es x W O)).natAbs<18446744073709551616) →
   ∃t q,zU n x1 es x W O=some (t,q)∧Lg (Kf (pW es x W).length 0 (mW es x W O) 1) t q):=by
 have hlen:=h.len;obtain⟨p0,f1,f2⟩:=BQ n (by omega)
 have f3:=Eo h hx (show 64<n by omega) W es.length 0 n p0 (fun x=>x) [] (by omega) (by omega) f2 Rt.id
 have hF:Du n x=some ((tz x:Nat):Int):=by unfold Du; rw[cM hx]
 have htz:tz x<64:=gV hx (ft h0 hx).1;refine⟨fun ha=>?_,fun ha hP=>?_⟩
 ·obtain⟨p',k,g1⟩:=f3.2 ha;unfold zU;rw[f1,ah,ah];rw[show(0:Int)=((0:Nat):Int) from rfl,g1]
  rfl
 ·obtain⟨p,E',g1,hp,hr⟩:=f3.1 ha
  change Fst p (rW es x W) at hp
  clear hr;obtain⟨T,t1,t2,t3⟩:=D7 (n:=n) hx (by omega) hp (rW es x W (tz x))
  obtain⟨L,l1,l2⟩:=Er (n:=n) (Cb x (rW es x W) (rW es x W (tz x))) (by omega) T t2
  obtain⟨L',m1,m2⟩:=E1 h hx (by omega:200<n) hp O rfl t3 l2
  have hs:=Cb x (rW es x W) (rW es x W (tz x));have hD:∀k r c,k<(pW es x W).length→r<(pW es x W).length→c<(pW es x W).length→(cx (k+1) (j4 (mW es x W O) k r c)).natAbs<wp 15:=fun k r c hk _ _=>CX _ _ (Nat.le_trans (FB _ _ _ _) hlen) (Nat.lt_of_lt_of_le hk hs);obtain⟨t,q,h1,h2⟩:=Dw (n:=n) (by omega) hs hD hP (pW es x W).length 0 n L' (mW es x W O) 1 false [1] (Nat.add_zero _) (Nat.lt_of_le_of_lt hs (by omega)) m2 (Bar.start _ _) AA
  refine⟨t,q,?_,h2⟩;unfold zU;rw[f1,ah,ah];rw[show(0:Int)=((0:Nat):Int) from rfl,g1]
  dsimp only[ah]
  rw[hF,ah,Ea,hp.root n (tz x) n htz (by omega)]
  dsimp only[ah,Option.map_some]
  have t1':bG (pD n x p.length p ((rW es x W (tz x):Nat):Int)) n (([]:List (Int × Int)),((0:Nat):Int))=some T:=t1;rw[t1',ah,t2,cM (by omega),Int.toNat_natCast,ga (by omega),aD]
  have l1':bG (qH n (sF x (rW es x W) (rW es x W (tz x)) 64).length T) n (List.replicate (sF x (rW es x W) (rW es x W (tz x)) 64).length ([]:List (Bool × List Nat)),((0:Nat):Int))=some L:=l1;rw[l1',ah];have m1':bG (uq n es x p.length p O T (sF x (rW es x W) (rW es x W (tz x)) 64).length) n (((0:Nat):Int),L)=some L':=m1;rw[m1',ah,ah,wu (by omega),ah]
  have h1':bG (iL n (sF x (rW es x W) (rW es x W (tz x)) 64).length) n (L',false,[1],((0:Nat):Int))=some (.inl (t,q))∨bG (iL n (sF x (rW es x W) (rW es x W (tz x)) 64).length) n (L',false,[1],((0:Nat):Int))=some (.inr (t,q)):=h1;rcases h1' with h1|h1<;>rw[h1]<;>rfl
theorem BJ {l:List Nat} {a b:Nat} (ha:a ∈ l) (h:l.idxOf a=l.idxOf b):a=b:=by
 have h1:l.idxOf a<l.length:=List.idxOf_lt_length_iff.2 ha;have e1:l[l.idxOf a]? = some a:=by rw[List.getElem?_eq_getElem h1,List.getElem_idxOf]
 have h2:l.idxOf b<l.length:=by rw[←h]; exact h1
 have e2:l[l.idxOf b]? = some b:=by rw[List.getElem?_eq_getElem h2,List.getElem_idxOf]
 rw[h,e2] at e1;exact(Option.some.inj e1).symm
theorem Al {l:List Nat} {a:Nat}:l.idxOf a≤l.length:=List.idxOf_le_length
def kx (es:List (Int × Int)) (x:Nat) (O:List (Int × Bool)):List Int:=((List.range es.length).filter (ki es x O)).map fun(k:Nat)=>(k:Int)
theorem Hc (es:List (Int × Int)) (x:Nat) (O:List (Int × Bool)):(kx es x O).map (eg es)=kl es x O es.length:=by
 unfold kx kl;rw[List.map_map]; rfl
theorem Mr {es:List (Int × Int)} {x:Nat} {O:List (Int × Bool)} {k:Int} (h:k ∈ kx es x O):eo es x k=true:=by
 obtain⟨m,h1,rfl⟩:=List.mem_map.1 h;have:=(List.mem_filter.1 h1).2;unfold ki at this;rw[Bool.and_eq_true] at this;exact this.1
theorem B7 {N:Nat} {es:List (Int × Int)} (h:Okay N es) {x:Nat} {k:Int} (hk:eo es x k=true):(eg es k).1 ∈ bW x 64∧(eg es k).2 ∈ bW x 64:=by
 obtain⟨h1,h2,h3⟩:=mb hk;obtain⟨a,b,_,e,e1,e2,_⟩:=eY h h1;rw[e] at h2 h3 ⊢;exact⟨bT.2 ⟨by omega,h2⟩,bT.2 ⟨e2,h3⟩⟩
theorem GN {N:Nat} {es:List (Int × Int)} (h:Okay N es) {x:Nat} {W:List (Int × Bool)} {i j:Nat}:∀e ∈ wl es x W i j,e.1 ∈ bW x 64∧e.2 ∈ bW x 64:=fun e he=>by
 obtain⟨m,h1,rfl⟩:=List.mem_map.1 he;have:=(List.mem_filter.1 h1).2;unfold wi at this;rw[Bool.and_eq_true] at this;exact B7 h this.1
section
variable {N : Nat} {es : List (Int × Int)} {x : Nat} {W O : List (Int × Bool)}
theorem J9:Rt (rW es x W) (wl es x W 0 es.length).reverse:=wE _
theorem AB (h:Okay N es) {v:Nat} (hv:v ∈ bW x 64):rW es x W v ∈ bW x 64:=(gC (lB x) (GN h)).2 v hv
theorem kT (hx:x<2 ^ 64) (h0:0<x):tz x ∈ bW x 64:=bT.2 ⟨gV hx (ft h0 hx).1,(ft h0 hx).1⟩
theorem Fq {v:Nat}:v ∈ pW es x W↔v ∈ bW x 64∧rW es x W v=v∧v≠rW es x W (tz x):=by
 unfold pW sF J7;rw[List.mem_filter,List.mem_range,bT];simp[and_assoc]
theorem Gq (h:Okay N es) (hx:x<2 ^ 64) (h0:0<x):iF (bW x 64) (rW es x W)=(pW es x W).length+1:=by
 have hg:=AB (W:=W) h (kT hx h0);have hrr:=(J9 (es:=es) (x:=x) (W:=W)).rr (tz x);have e1:iF (bW x 64) (rW es x W)=((List.range 64).filter fun v=>x.testBit v && rW es x W v == v).length:=by
  unfold iF bW;rw[List.filter_filter]
  congr 2
  funext v
  exact Bool.and_comm _ _
 rw[e1];unfold pW sF;refine kv (a:=rW es x W (tz x)) List.nodup_range (List.mem_range.2 (bT.1 hg).1) ?_ fun v=>?_
 ·simp[(bT.1 hg).2,hrr]
 ·unfold J7;simp
theorem Mq (h:Okay N es) (hx:x<2 ^ 64) (h0:0<x) (ha:bj (fun x=>x) (wl es x W 0 es.length)=true):(pW es x W).length+1+(wl es x W 0 es.length).length=rk x 64:=by
 have h1:=(gC (lB x) (GN (W:=W) (i:=0) (j:=es.length) h)).1;have h2:=(oh (wl es x W 0 es.length) fun x=>x).2 ha;rw[h2] at h1;have h3:=Gq (W:=W) h hx h0;unfold rk;have e:rep (wl es x W 0 es.length)=rW es x W:=rfl;rw[e] at h1;omega
theorem KY (h:Okay N es) {v w:Nat} (hv:v ∈ bW x 64) (hw:w ∈ bW x 64):rW es x W v=rW es x W w↔(pW es x W).idxOf (rW es x W v)=(pW es x W).idxOf (rW es x W w):=by
 refine⟨fun e=>by rw[e],fun e=>?_⟩
 have hrr:=fun v=>(J9 (es:=es) (x:=x) (W:=W)).rr v
 by_cases h1:rW es x W v ∈ pW es x W
 ·exact BJ h1 e
 ·by_cases h2:rW es x W w ∈ pW es x W
  ·exact(BJ h2 e.symm).symm
  ·have g1:rW es x W v=rW es x W (tz x):=Classical.byContradiction fun hc=>h1 (Fq.2 ⟨AB h hv,hrr v,hc⟩);have g2:rW es x W w=rW es x W (tz x):=Classical.byContradiction fun hc=>h2 (Fq.2 ⟨AB h hw,hrr w,hc⟩);rw[g1,g2]
theorem Ob (s:Nat):dg s (fun i=>i)=s:=by
 unfold dg;rw[List.filter_eq_self.2 (fun i _=>by simp)]
 exact List.length_range
theorem Kz (h:Okay N es) {n:Nat} (hx:x<2 ^ 64) (h0:0<x) (hn:300<n) (x1:Int) (hk:(kx es x O).length≤63) :
  (bj (fun x=>x) (wl es x W 0 es.length)=false→zU n x1 es x W O=some (false,[])) ∧
  (bj (fun x=>x) (wl es x W 0 es.length)=true→∃t q,zU n x1 es x W O=some (t,q)∧Lg ((gw es (kx es x O) (pW es x W).length (rW es x W)).length:Int) t q):=by
 have hF:=KZ h hx h0 hn x1 W O;refine⟨hF.1,fun ha=>?_⟩;have hkl:(kl es x O es.length).length≤63:=by rw[←Hc,List.length_map]; exact hk
 obtain⟨t,q,h1,h2⟩:=hF.2 ha fun k _=>by
  have:=DG (fun v=>(pW es x W).idxOf (rW es x W v)) (kl es x O es.length) k;have h3:2 ^ (kl es x O es.length).length≤2 ^ 63:=Nat.pow_le_pow_right (by decide) hkl
  unfold mW;omega
 refine⟨t,q,h1,?_⟩;have e1:Kf (pW es x W).length 0 (mW es x W O) 1=_:=Il (fun v=>(pW es x W).idxOf (rW es x W v)) (kl es x O es.length) (pW es x W).length fun e _=>⟨Al,Al⟩;have e2:=AG (es:=es) (V:=fun v=>v ∈ bW x 64) (s:=(pW es x W).length) (ψ:=fun v=>(pW es x W).idxOf (rW es x W v)) (fun v _=>Al) (kx es x O) (rW es x W) (fun i=>i) (Rho.id _) (fun v w hv hw=>KY h hv hw) (fun k hk=>B7 h (Mr hk));rw[Ob,Hc] at e2;rw[e1,←e2] at h2;exact h2
end
theorem N8 (m:Nat):M9 (m+20) false []=some (0,0,0,0,0,0,0,0,0):=by rfl
theorem NL (m c:Nat):M9 (m+20) false [c]=some (c,0,0,0,0,0,0,0,0):=by rfl
theorem Mm {n c:Nat} (hn:20≤n) (hc:c<18446744073709551616) {t:Bool} {q:List Nat} (h:Lg (c:Int) t q):M9 n t q=some (c,0,0,0,0,0,0,0,0):=by
 obtain⟨m,rfl⟩:∃m,n=m+20:=⟨n-20,by omega⟩
 have ht:=h.Es;rw[decide_eq_false (by omega)] at ht
 subst ht
 by_cases h0:c=0
 ·subst h0;rw[(h.PM).2 rfl];exact N8 m
 ·have:=h.O5 (by omega) (by simpa using hc)
  rw[this];exact NL m c
theorem AU (n:Nat) (N:Int) (es:List (Int × Int)) (x:Nat) (hx:x<2 ^ 64) (hl:es.length<4611686018427387904) (hk:es.length<n) (hn:2<n):Kd n N es x=some (HL N es x):=by
 unfold Kd HL;rw[AJ n N es hn hl hk,ah]
 by_cases hok:pN N es=true
 ·obtain⟨M,rfl,hO⟩:=p7 hok;simp only[Ll,hok,if_true,decide_true,Bool.not_true,bK]
  by_cases h0:x=0
  ·simp[h0,br,ob]
  ·rw[bf h0,wh n x hx,ah,ah]
   by_cases h2:2 ^ M≤x
   ·have:M<bl x:=ja.2 h2;rw[decide_eq_true (show((M:Nat):Int)<((bl x:Nat):Int) by omega),bI,if_pos (.inr (by simpa using h2))]
   ·have:¬M<bl x:=fun g=>h2 (ja.1 g);rw[decide_eq_false (show ¬((M:Nat):Int)<((bl x:Nat):Int) by omega),bK,if_neg (by simp[h0]; simpa using h2)]
 ·rw[Bool.not_eq_true] at hok;simp[Ll,hok,br]
def j5 (es:List (Int × Int)) (x:Nat):List (List Int):=gw es (il es x 0 es.length) (rk x 64-1) fun x=>x
def ul (v:Nat):List Nat:=if v=0 then[] else[v]
theorem Hj {v:Nat} (h:v≠0):ul v = [v]:=if_neg h
theorem NO {v:Nat} (h:v<18446744073709551616):Lg (v:Int) false (ul v):=by
 by_cases h0:v=0
 ·subst h0; exact Lg.zero
 ·rw[Hj h0]; exact Lg.small h0 h false
def Kr (r r':Nat→Nat):Prop:=∀v w,r v=r w↔r' v=r' w
theorem Kr.join {r r':Nat→Nat} (h:Kr r r') (e:Nat × Nat):Kr (bP r e) (bP r' e):=by
 intro v w
 by_cases h1:r e.1=r e.2
 ·rw[mN h1,mN ((h _ _).1 h1)]; exact h v w
 ·rw[oX h1,oX (fun g=>h1 ((h _ _).2 g)),h v w,h v e.1,h v e.2,h w e.1,h w e.2]
def hv (k:Int) (T:List (List Int)):Nat:=(T.filter fun t=>t.contains k).length
theorem Cm (es:List (Int × Int)) (k:Int) (L:List Int) (d:Nat) {r:Nat→Nat} (h:r (eg es k).1=r (eg es k).2):gw es (k::L) d r=gw es L d r:=by
 cases d with
 | zero=>cases L<;>rfl
 | succ d=>simp only[gw]; rw[if_pos h,List.nil_append]
def gt (W:List (Int × Bool)) (k:Nat):Bool:=(bZ W (k:Int)).getD false
structure Dcd (es:List (Int × Int)) (x:Nat) (W O:List (Int × Bool)) (i:Nat):Prop where
 lt:∀k,k<i→eo es x (k:Int)=true→gt W k = !gt O k
 ge:∀k,i≤k→gt W k=false∧gt O k=false
def hd (es:List (Int × Int)) (x:Nat) (W:List (Int × Bool)) (i:Nat):List Int:=((List.range i).filter (wi es x W)).map fun(k:Nat)=>(k:Int)
section
variable {N : Nat} {es : List (Int × Int)} {x i : Nat} {W O : List (Int × Bool)}
theorem wg (es:List (Int × Int)) (x:Nat) (W:List (Int × Bool)) (i:Nat):hd es x W (i+1)=if wi es x W i then hd es x W i++[(i:Int)] else hd es x W i:=by
 unfold hd;rw[List.range_succ,List.filter_append,List.filter_cons]
 split<;>simp
theorem xX {W':List (Int × Bool)} (h:∀k,k<i→eo es x (k:Int)=true→gt W k=gt W' k):hd es x W i=hd es x W' i:=by
 unfold hd
 congr 1
 refine List.filter_congr fun k hk=>?_;unfold wi;cases hin:eo es x (k:Int) with
 | false=>rfl
 | true =>
  have:=h k (List.mem_range.1 hk) hin;unfold gt at this;rw[this]
theorem pv (hi:i≤es.length):List.range es.length=List.range i++List.range' i (es.length-i):=by
 rw[List.range_eq_range',List.range_eq_range'];have:=List.range'_append_1 (s:=0) (m:=i) (n:=es.length-i);rw[Nat.zero_add,show i+(es.length-i)=es.length by omega] at this
 exact this.symm
theorem Dcd.Qn (h:Dcd es x W O i) (hi:i≤es.length):wl es x W 0 es.length=(hd es x W i).map (eg es):=by
 unfold wl hd;rw[←List.range_eq_range',pv hi,List.filter_append,List.map_map,List.map_append];have:(List.range' i (es.length-i)).filter (wi es x W) = []:=List.filter_eq_nil_iff.2 fun k hk=>by
  have h1:=(List.mem_range'_1.1 hk).1;have:=(h.ge k h1).1;unfold gt at this;unfold wi;rw[this,Bool.and_false]; simp
 rw[this,List.map_nil,List.append_nil]; rfl
theorem Dcd.Qy (h:Dcd es x W O i) (hi:i≤es.length):kx es x O=hd es x W i++il es x i (es.length-i):=by
 unfold kx hd il;rw[pv hi,List.filter_append,List.map_append]
 congr 2
 ·refine List.filter_congr fun k hk=>?_;unfold ki wi;cases hin:eo es x (k:Int) with
  | false=>rfl
  | true =>
   have:=h.lt k (List.mem_range.1 hk) hin;unfold gt at this;rw[this]
 ·refine List.filter_congr fun k hk=>?_;have h1:=(List.mem_range'_1.1 hk).1;have:=(h.ge k h1).2;unfold gt at this;unfold ki;rw[this]; simp
theorem yN (es:List (Int × Int)) (L:List Int) (d:Nat) {r:Nat→Nat}:∀T:List Int,(∀k ∈ T,r (eg es k).1=r (eg es k).2)→gw es (T++L) d r=gw es L d r
 | [],_=>rfl
 | k::T,h=>by rw[List.cons_append,Cm es k _ d (h k List.mem_cons_self),yN es L d T fun k hk=>h k (List.mem_cons_of_mem _ hk)]
def rh (es:List (Int × Int)) (x:Nat) (W:List (Int × Bool)) (i:Nat):Nat→Nat:=rep ((hd es x W i).map (eg es))
theorem Jb {k:Int} (hk:k ∈ hd es x W i):rh es x W i (eg es k).1=rh es x W i (eg es k).2:=by
 unfold rh;rw[Ay];exact Cn.one (.inl (List.mem_map.2 ⟨k,hk,rfl⟩))
theorem KA (es:List (Int × Int)) (x:Nat) (O:List (Int × Bool)):(kx es x O).length≤inc es x 0:=by
 have h1:=uX es x es.length 0 (by omega)
 rw[←h1];unfold kx il;rw[List.length_map,List.length_map,←List.range_eq_range',←List.countP_eq_length_filter,←List.countP_eq_length_filter];refine List.countP_mono_left fun k _ hk=>?_;unfold ki at hk;rw[Bool.and_eq_true] at hk;exact hk.1
theorem Bm (h:Okay N es) {n:Nat} (hx:x<2 ^ 64) (h0:0<x) (hn:300<n) (x1:Int) (hinc:inc es x 0≤36) (hd':Dcd es x W O i) (hi:i≤es.length) :
  (bj (fun x=>x) ((hd es x W i).map (eg es))=false→zU n x1 es x W O=some (false,[])) ∧
  (bj (fun x=>x) ((hd es x W i).map (eg es))=true→∃t q,zU n x1 es x W O=some (t,q)∧Lg ((gw es (il es x i (es.length-i)) (rk x 64-1-(hd es x W i).length) (rh es x W i)).length:Int) t q∧(hd es x W i).length+1≤rk x 64):=by
 have hc:=Kz (W:=W) (O:=O) h hx h0 hn x1 (by have:=KA es x O; omega)
 have hw:=hd'.Qn hi;rw[hw] at hc;refine⟨hc.1,fun ha=>?_⟩;obtain⟨t,q,h1,h2⟩:=hc.2 ha;have hp:=Mq (W:=W) h hx h0 (by rw[hw]; exact ha)
 rw[hw,List.length_map] at hp;have hr:rW es x W=rh es x W i:=by unfold rW rh; rw[hw]; rfl
 rw[hd'.Qy hi,hr,yN es _ _ _ fun k hk=>Jb hk,show(pW es x W).length=rk x 64-1-(hd es x W i).length by omega] at h2
 exact⟨t,q,h1,h2,by omega⟩
theorem nC (e:Nat × Nat):∀(T:List (Nat × Nat)) (r:Nat→Nat),bj r (T++[e])=(bj r T && !(T.foldl bP r e.1 == T.foldl bP r e.2))
 | [],r=>by simp[bj]
 | d::T,r=>by
  rw[List.cons_append];simp only[bj,List.foldl_cons];rw[nC e T,Bool.and_assoc]
theorem ov (W:List (Int × Bool)) (i k:Nat) (b:Bool):gt (dS W (i:Int) b) k=if k=i then b else gt W k:=by
 unfold gt;rw[FO]
 by_cases h:k=i
 ·rw[if_pos h,if_pos (by omega)]
 ·rw[if_neg h,if_neg (by omega)]
theorem Dcd.Qg (h:Dcd es x W O i):Dcd es x (dS W (i:Int) true) O (i+1):=by
 refine⟨fun k hk hin=>?_,fun k hk=>?_⟩
 ·rw[ov]
  by_cases hki:k=i
  ·subst hki;rw[if_pos rfl,(h.ge k (Nat.le_refl _)).2]; rfl
  ·rw[if_neg hki]; exact h.lt k (by omega) hin
 ·rw[ov,if_neg (by omega)]; exact h.ge k (by omega)
theorem Dcd.left (h:Dcd es x W O i) {W':List (Int × Bool)} (hW:∀k,gt W' k=gt W k):Dcd es x W' (dS O (i:Int) true) (i+1):=by
 refine⟨fun k hk hin=>?_,fun k hk=>?_⟩
 ·rw[ov,hW]
  by_cases hki:k=i
  ·subst hki;rw[if_pos rfl,(h.ge k (Nat.le_refl _)).1]; rfl
  ·rw[if_neg hki]; exact h.lt k (by omega) hin
 ·rw[ov,if_neg (by omega),hW]; exact h.ge k (by omega)
theorem Dcd.skip (h:Dcd es x W O i) (hin:eo es x (i:Int)=false):Dcd es x W O (i+1):=by
 refine⟨fun k hk hk2=>?_,fun k hk=>h.ge k (by omega)⟩
 by_cases hki:k=i
 ·subst hki; rw[hin] at hk2; cases hk2
 ·exact h.lt k (by omega) hk2
theorem Az (h:Dcd es x W O i) (hin:eo es x (i:Int)=true):hd es x (dS W (i:Int) true) (i+1)=hd es x W i++[(i:Int)]:=by
 rw[wg];have hw:wi es x (dS W (i:Int) true) i=true:=by
  have:=ov W i i true;rw[if_pos rfl] at this;unfold gt at this;unfold wi;rw[hin,this]; rfl
 rw[if_pos hw,xX (W':=W) fun k hk _=>by rw[ov,if_neg (by omega)]]
theorem I4 (h:Dcd es x W O i) {W':List (Int × Bool)} (hW:∀k,gt W' k=gt W k):hd es x W' (i+1)=hd es x W i:=by
 rw[wg];have hw:wi es x W' i=false:=by
  have:=hW i;rw[(h.ge i (Nat.le_refl _)).1] at this;unfold gt at this;unfold wi;rw[this,Bool.and_false]
 rw[hw,xX (W':=W) fun k _ _=>hW k]; rfl
theorem Ek (h:Okay N es) {n:Nat} (hx:x<2 ^ 64) (h0:0<x) (hn:300<n) (x1:Int) (hinc:inc es x 0≤36) (hd':Dcd es x W O i) (hi:i<es.length) (hin:eo es x (i:Int)=true) (ha:bj (fun x=>x) ((hd es x W i).map (eg es))=true) :
  ∃(t:Bool) (q:List Nat) (c:Nat),zU n x1 es x (dS W (i:Int) true) O=some (t,q)∧Lg (c:Int) t q ∧
   (rh es x W i (eg es i).1=rh es x W i (eg es i).2→c=0) ∧
   (rh es x W i (eg es i).1≠rh es x W i (eg es i).2→bj (fun x=>x) ((hd es x W i++[(i:Int)]).map (eg es))=true∧(hd es x W i).length+2≤rk x 64 ∧
    c=(gw es (il es x (i+1) (es.length-(i+1))) (rk x 64-1-(hd es x W i).length-1) (bP (rh es x W i) (eg es i))).length):=by
 have hc:=Bm h hx h0 hn x1 hinc hd'.Qg (show i+1≤es.length from hi)
 rw[Az hd' hin] at hc;have hr:rh es x (dS W (i:Int) true) (i+1)=bP (rh es x W i) (eg es (i:Int)):=by
  unfold rh;rw[Az hd' hin,List.map_append,List.map_singleton,tx]
 have hj:bj (fun x=>x) ((hd es x W i++[(i:Int)]).map (eg es)) = !(rh es x W i (eg es i).1 == rh es x W i (eg es i).2):=by
  rw[List.map_append,List.map_singleton,nC,ha,Bool.true_and]; rfl
 by_cases hab:rh es x W i (eg es i).1=rh es x W i (eg es i).2
 ·have hf:bj (fun x=>x) ((hd es x W i++[(i:Int)]).map (eg es))=false:=by rw[hj,hab]; simp
  exact⟨false,[],0,hc.1 hf,Lg.zero,fun _=>rfl,fun e=>absurd hab e⟩
 ·have ht:bj (fun x=>x) ((hd es x W i++[(i:Int)]).map (eg es))=true:=by rw[hj]; simpa using hab
  obtain⟨t,q,h1,h2,h3⟩:=hc.2 ht;rw[hr] at h2;rw[List.length_append,List.length_singleton] at h2 h3;exact⟨t,q,_,h1,h2,fun e=>absurd e hab,fun _=>⟨ht,by omega,by rw[show rk x 64-1-((hd es x W i).length+1)=rk x 64-1-(hd es x W i).length-1 by omega]⟩⟩
end
theorem qR {β:Type} {k:Int}:∀{xs:List (Int × β)} {i:Nat},bY k xs i=none→∀(v:β),bY k (xs++[(k,v)]) i=some (i+xs.length,v)
 | [],i,_,v=>by simp[bY]
 | e::xs,i,h,v=>by
  unfold bY at h
  by_cases h1:k=e.1
  ·rw[if_pos h1] at h; cases h
  ·rw[if_neg h1] at h;rw[List.cons_append];unfold bY;rw[if_neg h1,qR h v,List.length_cons]
   congr 2
   omega
theorem Dj {β:Type} {k:Int} {xs:List (Int × β)} (h:bZ xs k=none) (v:β):AO (dS xs k v) k=xs:=by
 have h1:bY k xs 0=none:=by
  unfold bZ at h;cases hm:bY k xs 0 with
  | none=>rfl
  | some p=>rw[hm] at h; cases h
 have h2:dS xs k v=xs++[(k,v)]:=by unfold dS; rw[h1]
 unfold AO;rw[h2,qR h1 v]
 dsimp only
 rw[Nat.zero_add,List.eraseIdx_append_of_length_le (Nat.le_refl _),Nat.sub_self];simp
theorem GR {n:Nat} {a b:Int} {s t:Bool} {l k:List Nat} (h:Lg a s l) (h':Lg b t k) (hb:l.length<1000000) (hb':k.length<1000000) (hn:l.length+k.length+1<n) :
  ∃r,M3 n s l t k=some r∧(r<0↔a<b):=by
 obtain⟨u,m,m1,m2⟩:=Be (n:=n) h h' hb hb' hn;obtain⟨r,r1,r2,r3⟩:=zN (n:=n) m2;exact⟨r,by unfold M3; rw[m1,ah]; dsimp only; rw[r1,ah],by rw[r2]; omega⟩
section
variable {N : Nat} {es : List (Int × Int)} {x : Nat}
def G (es:List (Int × Int)) (x:Nat) (W:List (Int × Bool)) (i:Nat):List (List Int):=gw es (il es x i (es.length-i)) (rk x 64-1-(hd es x W i).length) (rh es x W i)
structure Uv (es:List (Int × Int)) (x:Nat) (z:Int) (tgt:List Int) (i:Nat) (s:Bool) (l:List Nat) (W O:List (Int × Bool)) (tr:List Int) (zi:Int):Prop where
 dcd:Dcd es x W O i
 fresh:∀k:Nat,i≤k→bZ W (k:Int)=none
 join:bj (fun x=>x) ((hd es x W i).map (eg es))=true
 tr:tr=hd es x W i
 lg:Lg zi s l
 lo:0≤zi
 hi:zi≤z
 len:(hd es x W i).length+1≤rk x 64
 at_:∃t,(G es x W i)[zi.toNat]? = some t∧hd es x W i++t=tgt
theorem N2 (x:Nat):rk x 64≤64:=dO x 64
theorem Kt (h:Okay N es) {n:Nat} (hx:x<2 ^ 64) (h0:0<x) (hn:300<n) (x1:Int) (hinc:inc es x 0≤36) (hB:∀i d,d≤8→cb (inc es x i) d≤1073741824) (hr9:rk x 64≤9) {z:Int} (hz:z<1000000000000) {tgt:List Int} {s:Bool} {l:List Nat} (hg:Lg z s l) (hz0:0≤z)
  (hat:(j5 es x)[z.toNat]? = some tgt) :
  ∃s' l' W O,bG (o7 n es x x1) n (0,s,l,([]:List (Int × Bool)),([]:List (Int × Bool)),([]:List Int))=some (s',l',W,O,tgt):=by
 have hlen:=h.len;have hrk:=N2 x;have:=wS (body:=o7 n es x x1) (R:=fun r=>r.2.2.2.2=tgt) (fun j st=>∃i:Nat,∃zi:Int,st.1=(i:Int)∧i+j=es.length∧Uv es x z tgt i st.2.1 st.2.2.1 st.2.2.2.1 st.2.2.2.2.1 st.2.2.2.2.2 zi) (fun j st hI=>by
  obtain⟨v,s,l,W,O,tr⟩:=st;obtain⟨i,zi,e1,e2,u⟩:=hI;simp only at e1 u;subst e1;have utr:=u.tr;subst utr
  by_cases hi:i<es.length
  ·obtain⟨a,b,c1,c2,c3,c4,_,c5⟩:=eY h (k:=(i:Int)) ⟨by omega,by omega⟩
   rw[Int.toNat_natCast] at c1;have ha:a<64:=by omega
   have hinn:eo es x (i:Int)=(x.testBit a && x.testBit b):=by
    simp only[eo,c2];rw[decide_eq_true ⟨by omega,by omega⟩,Bool.true_and]
   have w1:IntKind.wrap .i64 ((i:Int)+1)=((i+1:Nat):Int):=aH (by omega)
   have hj:es.length-i=(es.length-(i+1))+1:=by omega
   obtain⟨t,t1,t2⟩:=u.at_;unfold G at t1;rw[hj,vr] at t1;cases hin:eo es x (i:Int) with
   | false =>
    refine .inl ⟨(((i+1:Nat):Int),s,l,W,O,hd es x W i),?_,j-1,by omega,i+1,zi,rfl,by omega,?_⟩
    ·unfold o7
     dsimp only
     rw[bB (by omega),aw hi,aD,Int.toNat_natCast,c1,ah]
     dsimp only
     rw[ko n x a b hx ha c4,ah,←hinn,hin,bK,ah]
     dsimp only
     rw[w1]
    ·have hd1:hd es x W (i+1)=hd es x W i:=by
      rw[wg]; unfold wi; rw[hin]; rfl
     have hr1:rh es x W (i+1)=rh es x W i:=by unfold rh; rw[hd1]
     rw[hin] at t1;exact { dcd:=u.dcd.skip hin,fresh:=fun k hk=>u.fresh k (by omega),join:=by rw[hd1]; exact u.join,tr:=hd1.symm,lg:=u.lg,lo:=u.lo,hi:=u.hi,len:=by rw[hd1]; exact u.len,at_:=⟨t,by unfold G; rw[hd1,hr1]; exact t1,by rw[hd1]; exact t2⟩}
   | true =>
    rw[hin,if_pos rfl] at t1;obtain⟨t',q',c,f1,f2,f3,f4⟩:=Ek h hx h0 hn x1 hinc u.dcd hi hin u.join;have hcb:(c:Int).natAbs<wp 1:=by
     by_cases hab:rh es x W i (eg es i).1=rh es x W i (eg es i).2
     ·rw[f3 hab]; decide
     ·obtain⟨_,_,hc⟩:=f4 hab;have h1:=Br es (il es x (i+1) (es.length-(i+1))) (rk x 64-1-(hd es x W i).length-1) (bP (rh es x W i) (eg es i));rw[uX es x _ (i+1) (by omega)] at h1
      have h2:=hB (i+1) (rk x 64-1-(hd es x W i).length-1) (by omega)
      show _<18446744073709551616
      omega
    have l1:l.length≤1:=u.lg.len (by have:=u.lo; have:=u.hi; show _<18446744073709551616; omega)
    have l2:q'.length≤1:=f2.len hcb;obtain⟨cm,m1,m2⟩:=GR (n:=n) u.lg f2 (by omega) (by omega) (by omega)
    obtain⟨s2,l2',d1,d2⟩:=Be (n:=n) u.lg f2 (by omega) (by omega) (by omega)
    have hdel:AO (dS W (i:Int) true) (i:Int)=W:=Dj (u.fresh i (Nat.le_refl _)) true;have hd2:hd es x W (i+1)=hd es x W i:=I4 u.dcd fun _=>rfl;have hr2:rh es x W (i+1)=rh es x W i:=by unfold rh; rw[hd2]
    have st:o7 n es x x1 ((i:Int),s,l,W,O,hd es x W i)=some (.inl (if cm<0 then(((i+1:Nat):Int),s,l,dS W (i:Int) true,O,hd es x W i++[(i:Int)]) else(((i+1:Nat):Int),s2,l2',W,dS O (i:Int) true,hd es x W i))):=by
     unfold o7
     dsimp only
     rw[bB (by omega),aw hi,aD,Int.toNat_natCast,c1,ah]
     dsimp only
     rw[ko n x a b hx ha c4,ah,←hinn,hin,bI,f1,ah]
     dsimp only
     rw[m1,ah]
     by_cases hcm:cm<0
     ·rw[bB hcm,ga (by rw[List.length_append,List.length_singleton]; have:=u.len; omega),aD,ah]
      dsimp only
      rw[ah]
      dsimp only
      rw[w1,if_pos hcm]
     ·rw[bf hcm,d1,ah]
      dsimp only
      rw[ah]
      dsimp only
      rw[ah]
      dsimp only
      rw[w1,if_neg hcm,hdel]
    refine .inl ⟨_,st,j-1,by omega,i+1,if cm<0 then zi else zi-(c:Int),by split<;>rfl,by omega,?_⟩
    have left_ok:∀(t1':(gw es (il es x (i+1) (es.length-(i+1))) (rk x 64-1-(hd es x W i).length) (rh es x W i))[(zi-(c:Int)).toNat]? = some t),¬cm<0→Uv es x z tgt (i+1) s2 l2' W (dS O (i:Int) true) (hd es x W i) (zi-(c:Int)):=fun t1' hcm =>
     { dcd:=u.dcd.left fun _=>rfl,fresh:=fun k hk=>u.fresh k (by omega),join:=by rw[hd2]; exact u.join,tr:=hd2.symm,lg:=d2,lo:=by have h3:¬zi<(c:Int):=fun g=>hcm (m2.2 g); omega,hi:=by have:=u.hi; omega,len:=by rw[hd2]; exact u.len,at_:=⟨t,by unfold G; rw[hd2,hr2]; exact t1',by rw[hd2]; exact t2⟩}
    have hlo:=u.lo;have hul:=u.len
    by_cases hab:rh es x W i (eg es i).1=rh es x W i (eg es i).2
    ·have hc0:=f3 hab;have hcm:¬cm<0:=fun g=>by have:=m2.1 g; omega
     rw[if_neg hcm,if_neg hcm];rw[Cm es (i:Int) _ _ hab] at t1;exact left_ok (by rw[hc0]; simpa using t1) hcm
    ·obtain⟨j1,j2,j3⟩:=f4 hab;obtain⟨D,hD⟩:∃D,rk x 64-1-(hd es x W i).length=D+1:=⟨rk x 64-1-(hd es x W i).length-1,by omega⟩
     rw[hD,Nat.add_sub_cancel] at j3;rw[hD] at t1;simp only[gw] at t1;rw[if_neg hab] at t1
     by_cases hcm:cm<0
     ·have hzc:=m2.1 hcm;rw[if_pos hcm,if_pos hcm];rw[List.getElem?_append_left (by rw[List.length_map,←j3]; omega),List.getElem?_map] at t1
      obtain⟨t3,t4,t5⟩:=Option.map_eq_some_iff.1 t1;have hd3:hd es x (dS W (i:Int) true) (i+1)=hd es x W i++[(i:Int)]:=Az u.dcd hin;have hr3:rh es x (dS W (i:Int) true) (i+1)=bP (rh es x W i) (eg es (i:Int)):=by
       unfold rh;rw[hd3,List.map_append,List.map_singleton,tx]
      refine { dcd:=u.dcd.Qg,fresh:=fun k hk=>by rw[oo,if_neg (by omega)]; exact u.fresh k (by omega),join:=by rw[hd3]; exact j1,tr:=hd3.symm,lg:=u.lg,lo:=u.lo,hi:=u.hi,len:=by rw[hd3,List.length_append,List.length_singleton]; omega,at_:=⟨t3,?_,?_⟩}
      ·unfold G;rw[hd3,hr3,List.length_append,List.length_singleton,show rk x 64-1-((hd es x W i).length+1)=D by omega]
       exact t4
      ·rw[hd3,←t2,←t5]; simp
     ·have hzc:¬zi<(c:Int):=fun g=>hcm (m2.2 g);rw[if_neg hcm,if_neg hcm];rw[List.getElem?_append_right (by rw[List.length_map,←j3]; omega),List.length_map,←j3,←hD] at t1
      exact left_ok (by rw[show(zi-(c:Int)).toNat=zi.toNat-c by omega]; exact t1) hcm
  ·refine .inr ⟨(s,l,W,O,hd es x W i),?_,?_⟩
   ·unfold o7
    dsimp only
    rw[bf (by omega)]
   ·obtain⟨t,t1,t2⟩:=u.at_;unfold G at t1;have hj:es.length-i=0:=by omega
    have h00:il es x i 0 = []:=rfl;rw[hj,h00] at t1
    show hd es x W i=tgt
    rw[←t2];cases hD:rk x 64-1-(hd es x W i).length with
    | succ D=>rw[hD] at t1; cases t1
    | zero =>
     rw[hD] at t1;have h01:gw es [] 0 (rh es x W i) = [[]]:=rfl;rw[h01] at t1;have:=List.mem_of_getElem? t1;rw[List.mem_singleton.1 this,List.append_nil]) es.length (0,s,l,[],[],[]) n ⟨0,z,rfl,by omega,
  { dcd:=⟨fun k hk=>absurd hk (Nat.not_lt_zero _),fun k _=>⟨rfl,rfl⟩⟩,fresh:=fun _ _=>rfl,join:=rfl,tr:=rfl,lg:=hg,lo:=hz0,hi:=Int.le_refl _,len:=by have:=nT hx (show x≠0 by omega); show 0+1≤_; omega,at_:=⟨tgt,hat,rfl⟩}⟩ (by omega)
 obtain⟨⟨s',l',W,O,tr⟩,h1,h2⟩:=this;simp only at h2;subst h2;exact⟨s',l',W,O,h1⟩
end
theorem Bu {N:Int} {es:List (Int × Int)} {x:Nat} (hc:HL N es x=0):pN N es=true∧x≠0:=by
 unfold HL at hc
 by_cases h:pN N es=true
 ·refine⟨h,fun e=>?_⟩;rw[if_pos h,if_pos (.inl e)] at hc;cases hc
 ·rw[if_neg h] at hc; cases hc
theorem Cj {M:Nat} {es:List (Int × Int)} {x n:Nat} (hok:pN (M:Int) es=true) (hO:Okay M es) (hx:x<2 ^ 64) (h0:x≠0) (hn:300<n) (hr:rk x 64≤9) (x1:Int) :
  ∃t q,zU n x1 es x [] []=some (t,q)∧Lg ((j5 es x).length:Int) t q:=by
 have hinc:=lh hok hO hr 0;have hD:Dcd es x ([]:List (Int × Bool)) [] 0:=⟨fun k hk=>absurd hk (Nat.not_lt_zero _),fun k _=>⟨rfl,rfl⟩⟩;obtain⟨t,q,h1,h2,h3⟩:=(Bm hO hx (show 0<x by omega) hn x1 hinc hD (Nat.zero_le _)).2 rfl
 exact⟨t,q,h1,h2⟩
theorem vJ (es:List (Int × Int)):∀(L:List Int) (d:Nat) (r:Nat→Nat),∀t ∈ gw es L d r,t.Sublist L
 | L,0,r,t,ht=>by
  have:gw es L 0 r = [[]]:=by cases L<;>rfl
  rw[this,List.mem_singleton] at ht;rw[ht]; exact List.nil_sublist _
 | [],d+1,_,t,ht=>by cases ht
 | m::L,d+1,r,t,ht=>by
  simp only[gw] at ht;rcases List.mem_append.1 ht with ht|ht
  ·split at ht
   ·cases ht
   ·obtain⟨t',h1,rfl⟩:=List.mem_map.1 ht;exact(vJ es L d _ t' h1).cons_cons m
  ·exact(vJ es L (d+1) _ t ht).cons m
section
variable {N : Nat} {es : List (Int × Int)} {x : Nat}
structure Uk (es:List (Int × Int)) (x:Nat) (tgt:List Int) (i:Nat) (s:Bool) (l:List Nat) (W O:List (Int × Bool)) (z:Nat):Prop where
 dcd:Dcd es x W O i
 fresh:∀k:Nat,i≤k→bZ W (k:Int)=none
 join:bj (fun x=>x) ((hd es x W i).map (eg es))=true
 lg:Lg (z:Int) s l
 len:(hd es x W i).length+1≤rk x 64
 rest:∃t,t ∈ G es x W i∧hd es x W i++t=tgt
 pos:∀(p:Nat) t,(G es x W i)[p]? = some t→(j5 es x)[z+p]? = some (hd es x W i++t)
theorem JQ {i j:Nat} {k:Int} (h:k ∈ il es x i j):(i:Int)≤k:=by
 obtain⟨m,h1,rfl⟩:=List.mem_map.1 h;have:=(List.mem_range'_1.1 (List.mem_filter.1 h1).1).1;omega
end
def m2 (a b:Nat):Nat:=if b=0 then(if a=0 then 0 else 1) else 2
section
variable {n : Nat} {k : Int} {a b : Nat}
theorem LH (hn:40<n) (s:Bool) {v:Nat} (hs:s=true→v≠0):zd n s [v,0,0,0,0,0,0,0]=some (s,ul v):=by
 obtain⟨m,rfl⟩:∃m,n=m+20:=⟨n-20,by omega⟩
 by_cases h:v=0
 ·subst h;cases s with
  | false=>rfl
  | true=>exact absurd rfl (hs rfl)
 ·have st:hY (m+20) [v,0,0,0,0,0,0,0] 1=some (.inr 1):=by
   show ob (ob (some (decide (v=0))) fun v66=>some v66) _=_
   rw[decide_eq_false h]; rfl
  have s8:hY (m+20) [v,0,0,0,0,0,0,0] 8=some (.inl 7):=rfl;have s7:hY (m+20) [v,0,0,0,0,0,0,0] 7=some (.inl 6):=rfl;have s6:hY (m+20) [v,0,0,0,0,0,0,0] 6=some (.inl 5):=rfl;have s5:hY (m+20) [v,0,0,0,0,0,0,0] 5=some (.inl 4):=rfl;have s4:hY (m+20) [v,0,0,0,0,0,0,0] 4=some (.inl 3):=rfl;have s3:hY (m+20) [v,0,0,0,0,0,0,0] 3=some (.inl 2):=rfl;have s2:hY (m+20) [v,0,0,0,0,0,0,0] 2=some (.inl 1):=rfl;unfold zd;rw[show(([v,0,0,0,0,0,0,0]:List Nat).length:Int)=8 from rfl,aU s8,aU s7,aU s6,aU s5,aU s4,aU s3,aU s2,aM st,ah,Hj h]
  cases s<;>rfl
end
theorem D1 {n:Nat} {v:Nat} (hv:v<9223372036854775808):Lp n (v:Int)=some (v,0,0,0,0,0,0,0):=by
 unfold Lp;rw[bf (by omega),ah]
 have:ui .u64 (v:Int)=v:=by show((v:Int)%18446744073709551616).toNat=v; omega
 rw[this]; rfl
theorem FN {n v:Nat} (hn:40<n) (hv:v<9223372036854775808):Lm n v 0 0 0 0 0 0 0=some (false,ul v)∧Lg (v:Int) false (ul v):=by
 refine⟨?_,NO (v:=v) (by omega)⟩
 unfold Lm Pb;rw[show(bu .u64 0 63)=0 from rfl,bf (by decide),ah]
 dsimp only
 rw[ah]
 dsimp only
 rw[show nK ((([]:List Nat)++[v,0,0,0,0,0,0,0]).length)=true from rfl,aD]
 show ob (zd n (decide (0=1)) [v,0,0,0,0,0,0,0]) _=_
 rw[show decide ((0:Nat)=1)=false from rfl,LH (by omega) false (fun h=>by cases h),ah]
section
variable {M : Nat} {es : List (Int × Int)} {x n : Nat}
theorem vf (hok:pN (M:Int) es=true) (hO:Okay M es) (hx:x<2 ^ 64) (h0:x≠0) (hr:rk x 64≤9):(j5 es x).length≤1073741824:=by
 have h1:=nT hx h0;have hB:∀i d,d≤8→cb (inc es x i) d≤1073741824:=fun i d hd=>wZ (lh hok hO hr i) hd;refine Nat.le_trans (Br es _ _ _) ?_;rw[uX es x es.length 0 (by omega)]
 exact hB 0 _ (by omega)
theorem CP (hx:x<2 ^ 64) (hl:es.length≤200) (hn:300<n) (hok:pN (M:Int) es=true) (hO:Okay M es) (hr:rk x 64≤9) (hc:HL (M:Int) es x=0) :
  Kw n (M:Int) es x=some ((j5 es x).length,0,0,0,0,0,0,0,0):=by
 obtain⟨_,h0⟩:=Bu hc;have:=vf hok hO hx h0 hr;obtain⟨t,q,q1,q2⟩:=Cj hok hO hx h0 hn hr (M:Int);unfold Kw;rw[AU n (M:Int) es x hx (by omega) (by omega) (by omega),ah,hc,decide_eq_true rfl,Bool.not_true,bK,q1,ah]
 dsimp only
 rw[Mm (by omega) (by omega) q2,ah]
theorem Cp {c:Nat} (hc:c≤1073741824):NM n c 0 0 0 0 0 0 0=some ((c:Int),0):=by
 unfold NM;have hw:IntKind.wrap .i64 ((c:Nat):Int)=((c:Nat):Int):=aR (by omega) (by omega)
 rw[hw,D1 (by omega),ah]
 dsimp only
 simp only[decide_true,Bool.and_true,Bool.not_true,bK]
theorem Aj {x7 x8 x9 x10 x11 x12 x13 x14:Nat} (hx:x<2 ^ 64) (hl:es.length≤200) (hn:300<n) (hok:pN (M:Int) es=true) (hO:Okay M es) (hr:rk x 64≤9) (hc:HL (M:Int) es x=0)
  {z:Int} {s:Bool} {l:List Nat} (hw:Lm n x7 x8 x9 x10 x11 x12 x13 x14=some (s,l)) (hg:Lg z s l) (hz:z.natAbs<18446744073709551616) :
  (∀(i:Nat) t,z=(i:Int)→(j5 es x)[i]? = some t→Nj n (M:Int) es x x7 x8 x9 x10 x11 x12 x13 x14=some (t,0))∧(z<0∨((j5 es x).length:Int)≤z→Nj n (M:Int) es x x7 x8 x9 x10 x11 x12 x13 x14=some ([],2)):=by
 obtain⟨_,h0⟩:=Bu hc;have hle:=vf hok hO hx h0 hr;obtain⟨t,q,q1,q2⟩:=Cj hok hO hx h0 hn hr (M:Int);obtain⟨sg,s1,s2,s3⟩:=zN (n:=n) hg;unfold Nj;rw[AU n (M:Int) es x hx (by omega) (by omega) (by omega),ah,hc,decide_eq_true rfl,Bool.not_true,bK,hw,ah]
 dsimp only
 rw[s1,ah]
 by_cases hneg:z<0
 ·refine⟨fun i t hi _=>by omega,fun _=>?_⟩
  rw[bB (s2.2 hneg)]; rfl
 ·rw[bf (fun e=>hneg (s2.1 e)),q1,ah]
  dsimp only
  have l1:l.length≤1:=hg.len (by rw[fE,wP]; omega)
  have l2:q.length≤1:=q2.len (by rw[fE,wP]; omega)
  obtain⟨cm,m1,m2⟩:=GR (n:=n) hg q2 (by omega) (by omega) (by omega)
  rw[m1,ah,ah];refine⟨fun i tr hi ht=>?_,fun hb=>?_⟩
  ·subst hi;have hlt:=(List.getElem?_eq_some_iff.1 ht).1;have hcm:cm<0:=m2.2 (by omega)
   obtain⟨s',l',W,O,e1⟩:=Kt hO hx (show 0<x by omega) hn (M:Int) (lh hok hO hr 0) (fun i d hd=>wZ (lh hok hO hr i) hd) hr (show(i:Int)<1000000000000 by omega) hg (by omega) (by rw[Int.toNat_natCast]; exact ht)
   rw[bf (show ¬0≤cm by omega),ah]
   dsimp only
   rw[e1]; rfl
  ·rw[bB (show 0≤cm from Int.not_lt.1 fun g=>by have:=m2.1 g; omega)]
end
theorem uD (es:List (Int × Int)):∀(L:List Int) (d:Nat) (r:Nat→Nat) (b:List Int),b ∈ gw es L d r→b.length=d
 | L,0,r,b,h=>by
  have:b = []:=by cases L<;>simpa [gw] using h
  rw[this]; rfl
 | [],d+1,r,b,h=>by simp[gw] at h
 | k::L,d+1,r,b,h=>by
  simp only[gw] at h;rcases List.mem_append.1 h with h|h
  ·split at h
   ·cases h
   ·obtain⟨t,ht,rfl⟩:=List.mem_map.1 h;rw[List.length_cons,uD es L d _ t ht]
  ·exact uD es L (d+1) r b h
theorem zO (es:List (Int × Int)) (x:Nat):∀j i,(il es x i j).Pairwise (· < ·)
 | 0,i=>List.Pairwise.nil
 | j+1,i=>by
  rw[vr]
  split
  ·refine List.pairwise_cons.2 ⟨fun k hk=>?_,zO es x j (i+1)⟩;have:=JQ hk; omega
  ·exact zO es x j (i+1)
theorem MB (n M x:Nat) (es:List (Int × Int)) (hM:M≤64) (hx:x<2 ^ 64) (hn:70<n):∃w,F8 n (M:Int) es x=some w∧w<2 ^ M∧rk w 64≤9:=by
 have h64:2 ^ M≤2 ^ 64:=Nat.pow_le_pow_right (by decide) hM
 have step:∀(s i:Nat),s<2 ^ M→rk s 64≤9→i≤M→(∃s',Au n (M:Int) x (s,(i:Int))=some (.inl (s',((i+1:Nat):Int)))∧s'<2 ^ M∧rk s' 64≤9∧i<M)∨Au n (M:Int) x (s,(i:Int))=some (.inr s):=by
  intro s i hsM hr hi;have hs:s<2 ^ 64:=by omega
  unfold Au;simp only[Ft n s hs (by omega),ah]
  by_cases h1:i<M
  ·rw[decide_eq_true (show(i:Int)<(M:Int) by omega),bI,ah]
   by_cases h2:rk s 64<9
   ·rw[decide_eq_true (show((rk s 64:Nat):Int)<9 by omega),bI,kR n x i hx (by omega),ah,uP n i (by omega),aH (by omega)]
    refine .inl ?_;cases x.testBit i with
    | true=>exact⟨s ||| 2 ^ i,by simp only[bI,ah,ub hs (show i<64 by omega)],Nat.or_lt_two_pow hsM (Nat.pow_lt_pow_right (by decide) h1),by have:=@NJ s i (by omega); omega,h1⟩
    | false=>exact⟨s,rfl,hsM,hr,h1⟩
   ·rw[decide_eq_false (show ¬((rk s 64:Nat):Int)<9 by omega)]; exact .inr rfl
  ·rw[decide_eq_false (show ¬(i:Int)<(M:Int) by omega)]; exact .inr rfl
 have loop:∀k i s n',i+k=M→s<2 ^ M→rk s 64≤9→k<n'→∃w,bG (Au n (M:Int) x) n' (s,(i:Int))=some w∧w<2 ^ M∧rk w 64≤9:=by
  intro k
  induction k with
  | zero =>
   intro i s n' hi hs hr hn';obtain⟨n',rfl⟩:∃k,n'=k+1:=⟨n'-1,by omega⟩
   rcases step s i hs hr (by omega) with⟨_,_,_,_,h⟩|h
   ·omega
   ·exact⟨s,aM h,hs,hr⟩
  | succ k ih =>
   intro i s n' hi hs hr hn';obtain⟨n',rfl⟩:∃k,n'=k+1:=⟨n'-1,by omega⟩
   rcases step s i hs hr (by omega) with⟨s',h,h1,h2,_⟩|h
   ·rw[aU h];exact ih (i+1) s' n' (by omega) h1 h2 (by omega)
   ·exact⟨s,aM h,hs,hr⟩
 obtain⟨w,h1,h2,h3⟩:=loop M 0 0 n (by omega) (Nat.pos_of_ne_zero (by simp)) (by decide +kernel) (by omega)
 refine⟨w,?_,h2,h3⟩;unfold F8;rw[show bG (Au n (M:Int) x) n (0,0)=some w from h1,ah]
theorem vh (es:List (Int × Int)):∀(L:List Int) (d:Nat) (r:Nat→Nat) (b:List Int),b ∈ gw es L d r→bj r (b.map (eg es))=true
 | L,0,r,b,h=>by
  have:b = []:=by cases L<;>simpa [gw] using h
  rw[this]; rfl
 | [],d+1,r,b,h=>by simp[gw] at h
 | k::L,d+1,r,b,h=>by
  simp only[gw] at h;rcases List.mem_append.1 h with h|h
  ·split at h
   ·cases h
   ·rename_i hne;obtain⟨t,ht,rfl⟩:=List.mem_map.1 h;rw[List.map_cons,bj,vh es L d _ t ht,Bool.and_true]
    simpa using hne
  ·exact vh es L (d+1) r b h
theorem EY (es:List (Int × Int)) (x:Nat):∀(l:List Int) (p:Int),l.Pairwise (· < ·)→(∀k ∈ l,eo es x k=true∧p<k)→wU es x p l=true
 | [],_,_,_=>rfl
 | a::l,p,h,hk=>by
  obtain⟨h1,h2⟩:=List.pairwise_cons.1 h;obtain⟨k1,k2⟩:=hk a List.mem_cons_self;simp only[wU,k1,decide_eq_true k2,Bool.true_and,Bool.and_true];exact EY es x l a h2 fun k hkl=>⟨(hk k (List.mem_cons_of_mem _ hkl)).1,h1 k hkl⟩
theorem L7 {es:List (Int × Int)} {x i j:Nat} {k:Int} (h:k ∈ il es x i j):eo es x k=true:=by
 obtain⟨m,h1,rfl⟩:=List.mem_map.1 h;exact(List.mem_filter.1 h1).2
theorem D5 {es:List (Int × Int)} {x:Nat} (hx:x<2 ^ 64) (h0:x≠0) {l:List Int} (h:l ∈ j5 es x):Ht es x l=true:=by
 have h1:=nT hx h0;have hs:=vJ _ _ _ _ l h;have hi:∀k ∈ l,eo es x k=true∧(-1:Int)<k:=fun k hk=>by
  have hm:=hs.subset hk;refine⟨L7 hm,?_⟩;have:=JQ hm; omega
 unfold Ht;rw[EY es x l (-1) ((zO es x _ _).sublist hs) hi,vh _ _ _ _ _ h,Bool.true_and,Bool.and_true];have:=uD _ _ _ _ _ h;exact decide_eq_true (by omega)
end Go.Proofs.YtookeaakpiefjaaDoor
end

section
namespace Go.Proofs.YtookeaakpiefjaaDoor
open Go Go.Ab Go.Ab.W
section
variable {α β σ ρ : Type}
end
theorem FX {es:List (Int × Int)} {i j:Nat} (h:Ck es i j):Ck es j i:=h.symm
theorem FI {n x:Nat} (h:x<2 ^ 64):Du n x=some ((tz x:Nat):Int):=by unfold Du; rw[decide_eq_true h,aD]
def Pf (N:Int) (es:List (Int × Int)) (x:Nat):Int:=if pN N es then(if 2 ^ N.toNat≤x then 2 else 0) else 180
theorem MD (n:Nat) (N:Int) (es:List (Int × Int)) (x:Nat) (hx:x<2 ^ 64) (hn:2<n) (hl:es.length<4611686018427387904) (hk:es.length<n):Nt n N es x=some (Pf N es x):=by
 unfold Nt Pf;rw[AJ n N es hn hl hk,ah];unfold Ll
 by_cases h:pN N es=true
 ·obtain⟨M,rfl,hM⟩:=p7 h;rw[if_pos h,if_pos h];simp only[decide_true,Bool.not_true,bK,wh n x hx,ah,Int.toNat_natCast]
  by_cases h2:2 ^ M≤x
  ·have:=ja.2 h2;rw[if_pos h2,bB (by omega)]
  ·have:¬M<bl x:=fun h=>h2 (ja.1 h);rw[if_neg h2,bf (by omega)]
 ·rw[if_neg h,if_neg h]; rfl
theorem E2 {x N:Nat} (h:x<2 ^ N) (hN:N≤64):x<2 ^ 64:=Nat.lt_of_lt_of_le h (Nat.pow_le_pow_right (by decide) hN)
theorem wI {x N i:Nat} (h:x<2 ^ N) (hi:x.testBit i=true):i<N:=by
 rcases Nat.lt_or_ge i N with h1|h1
 ·exact h1
 ·rw[Nat.testBit_lt_two_pow (Nat.lt_of_lt_of_le h (Nat.pow_le_pow_right (by decide) h1))] at hi; cases hi
def IC (L:List Nat) (e:Int × Int):List Nat :=
 let L1:=L.set e.1.toNat (L.getD e.1.toNat 0 ||| 2 ^ e.2.toNat)
 L1.set e.2.toNat (L1.getD e.2.toNat 0 ||| 2 ^ e.1.toNat)
def gR (N:Nat) (es:List (Int × Int)) (L:List Nat):Prop:=L.length=N∧∀k,k<N→∃w,L[k]? = some w∧w<2 ^ 64∧∀i,w.testBit i=true↔Ck es k i
theorem rO {es:List (Int × Int)} {a b k i:Nat}:Ck (es++[((a:Int),(b:Int))]) k i↔Ck es k i∨(k=a∧i=b)∨(k=b∧i=a):=by
 unfold Ck;simp only[List.mem_append,List.mem_singleton,Prod.mk.injEq,Int.natCast_inj];constructor
 ·rintro((h|h) | (h|h))
  ·exact .inl (.inl h)
  ·exact .inr (.inl h)
  ·exact .inl (.inr h)
  ·exact .inr (.inr ⟨h.2,h.1⟩)
 ·rintro((h|h) | (h|h))
  ·exact .inl (.inl h)
  ·exact .inr (.inl h)
  ·exact .inl (.inr h)
  ·exact .inr (.inr ⟨h.2,h.1⟩)
theorem ze {N:Nat} {es:List (Int × Int)} {L:List Nat} (h:gR N es L) {a b:Nat} (hab:a<b) (hb:b<N) (hN:N≤64):gR N (es++[((a:Int),(b:Int))]) (IC L ((a:Int),(b:Int))):=by
 obtain⟨hl,hw⟩:=h;obtain⟨wa,ha1,ha2,ha3⟩:=hw a (by omega)
 obtain⟨wb,hb1,hb2,hb3⟩:=hw b hb;have e1:L.getD a 0=wa:=by simp[List.getD,ha1]
 have hset:(L.set a (wa ||| 2 ^ b))[b]? = some wb:=by rw[List.getElem?_set_ne (by omega)]; exact hb1
 have e2:(L.set a (wa ||| 2 ^ b)).getD b 0=wb:=by simp only[List.getD,hset]; rfl
 unfold IC;simp only[Int.toNat_natCast,e1,e2];refine⟨by simp[hl],fun k hk=>?_⟩
 by_cases hkb:k=b
 ·subst hkb;refine⟨wb ||| 2 ^ a,by rw[List.getElem?_set_self (by simp[hl]; exact hk)],j9 hb2 (dB (by omega)),fun i=>?_⟩
  rw[Nat.testBit_or,Bool.or_eq_true,hb3,eX,decide_eq_true_eq,rO];constructor
  ·rintro(h|h)
   ·exact .inl h
   ·exact .inr (.inr ⟨rfl,h⟩)
  ·rintro(h|⟨h,_⟩|⟨_,h⟩)
   ·exact .inl h
   ·omega
   ·exact .inr h
 ·by_cases hka:k=a
  ·subst hka;refine⟨wa ||| 2 ^ b,by rw[List.getElem?_set_ne (by omega),List.getElem?_set_self (by simp[hl]; exact hk)],j9 ha2 (dB (by omega)),fun i=>?_⟩
   rw[Nat.testBit_or,Bool.or_eq_true,ha3,eX,decide_eq_true_eq,rO];constructor
   ·rintro(h|h)
    ·exact .inl h
    ·exact .inr (.inl ⟨rfl,h⟩)
   ·rintro(h|⟨_,h⟩|⟨h,_⟩)
    ·exact .inl h
    ·exact .inr h
    ·omega
  ·obtain⟨w,h1,h2,h3⟩:=hw k hk;refine⟨w,by rw[List.getElem?_set_ne (by omega),List.getElem?_set_ne (by omega)]; exact h1,h2,fun i=>?_⟩
   rw[h3,rO];constructor
   ·exact .inl
   ·rintro(h|⟨h,_⟩|⟨h,_⟩)
    ·exact h
    ·omega
    ·omega
theorem Kq (n N:Nat) (es:List (Int × Int)) (h:Okay N es) (hn:200<n):∃L,Nm n (N:Int) es=some L∧gR N es L:=by
 have hN:=h.le;have hlen:=h.len;unfold Nm;rw[decide_eq_true (show(0:Int)≤(N:Int) by omega),aD,Int.toNat_natCast,ga (by omega),aD]
 have:=nS (body:=yd n es (N:Int)) es (fun(L:List Nat) (v:Int)=>(L,v)) IC id (fun i L=>gR N (es.take i) L) (fun L i x hx hI=>?_) (fun L _=>?_) (n:=n) (s:=List.replicate N 0) ⟨by simp,fun k hk=>⟨0,by simp[hk],by decide,fun i=>by simp[Ck]⟩⟩ (by omega)
 ·obtain⟨h1,h2⟩:=this;rw[h1,ah];rw[List.take_length] at h2;exact⟨_,rfl,h2⟩
 ·have hi:i<es.length:=(List.getElem?_eq_some_iff.1 hx).1;obtain⟨a,b,rfl,hab,hbN⟩:=h.mem x (List.mem_of_getElem? hx);have hstep:=ze hI hab hbN hN;have htk:es.take (i+1)=es.take i++[((a:Int),(b:Int))]:=by rw[List.take_add_one,hx]; rfl
  obtain⟨hl,hw⟩:=hI;obtain⟨wa,ha1,ha2,ha3⟩:=hw a (by omega)
  obtain⟨wb,hb1,hb2,hb3⟩:=hw b hbN;have e1:L.getD a 0=wa:=by simp[List.getD,ha1]
  have hset:(L.set a (wa ||| 2 ^ b))[b]? = some wb:=by rw[List.getElem?_set_ne (by omega)]; exact hb1
  have e2:(L.set a (wa ||| 2 ^ b)).getD b 0=wb:=by simp only[List.getD,hset]; rfl
  refine⟨?_,by rw[htk]; exact hstep⟩
  simp only[yd,Int.toNat_natCast,hx,ah,ha1,gK (show b<64 by omega),gK (show a<64 by omega),aw hi,aw (show a<N by omega),aw hbN,aD,fH ha2 (dB (show b<64 by omega)),hset,fH hb2 (dB (show a<64 by omega)),aH (show i<4611686018427387904 by omega),IC,e1,e2]
  rw[bB (by omega),decide_eq_true (show(0:Int)≤(b:Int) by omega),aD,decide_eq_true (show(0:Int)≤(a:Int) by omega),aD]
 ·simp only[yd];rw[bf (by omega)]; rfl
theorem Rch.symm {es:List (Int × Int)} {S i j:Nat} (h:Rch es S i j) (hi:S.testBit i=true):Rch es S j i:=by
 induction h with
 | refl=>exact .refl
 | step h' ha _ ih=>exact Rch.trans (.step .refl (FX ha) (h'.mem hi)) ih
theorem Fx.of {es:List (Int × Int)} {S i w:Nat} (hw:w<2 ^ 64) (hi:w.testBit i=true) (hr:∀j,w.testBit j=true→Rch es S i j) (hc:∀j k,w.testBit j=true→Ck es j k→S.testBit k=true→w.testBit k=true):Fx es S i w:=by
 refine⟨hw,fun j=>⟨hr j,fun h=>?_⟩⟩
 induction h with
 | refl=>exact hi
 | step _ ha hk ih=>exact hc _ _ ih ha hk
def cnt (x:Nat):Nat:=(bitsOf x).length
theorem filter_le {p q:Nat→Bool}:∀{l:List Nat},(∀i ∈ l,p i=true→q i=true)→(l.filter p).length≤(l.filter q).length
 | [],_=>Nat.le_refl _
 | x::l,h=>by
  have ih:=filter_le (p:=p) (q:=q) (l:=l) fun i hi=>h i (by simp[hi])
  by_cases hp:p x=true
  ·rw[List.filter_cons_of_pos hp,List.filter_cons_of_pos (h x (by simp) hp)]
   simp only[List.length_cons]; omega
  ·rw[List.filter_cons_of_neg hp]
   by_cases hq:q x=true
   ·rw[List.filter_cons_of_pos hq,List.length_cons]; omega
   ·rw[List.filter_cons_of_neg hq]; exact ih
theorem filter_lt {p q:Nat→Bool} {a:Nat}:∀{l:List Nat},a ∈ l→(∀i ∈ l,p i=true→q i=true)→p a=false→q a=true→(l.filter p).length<(l.filter q).length
 | x::l,ha,h,h1,h2=>by
  by_cases hx:x=a
  ·subst hx;rw[List.filter_cons_of_neg (by rw[h1]; decide),List.filter_cons_of_pos h2,List.length_cons]
   have:=filter_le (p:=p) (q:=q) (l:=l) fun i hi=>h i (by simp[hi])
   omega
  ·have ha':a ∈ l:=by
    rcases List.mem_cons.1 ha with e|e
    ·exact absurd e.symm hx
    ·exact e
   have ih:=filter_lt ha' (fun i hi=>h i (by simp[hi])) h1 h2
   by_cases hp:p x=true
   ·rw[List.filter_cons_of_pos hp,List.filter_cons_of_pos (h x (by simp) hp)]
    simp only[List.length_cons]; omega
   ·rw[List.filter_cons_of_neg hp]
    by_cases hq:q x=true
    ·rw[List.filter_cons_of_pos hq,List.length_cons]; omega
    ·rw[List.filter_cons_of_neg hq]; exact ih
theorem cnt_lt {a b i:Nat} (hb:b<2 ^ 64) (h:∀i,a.testBit i=true→b.testBit i=true) (h1:a.testBit i=false) (h2:b.testBit i=true):cnt a<cnt b :=
 filter_lt (by have:=gV hb h2; simpa using this) (fun i _ h'=>h i h') h1 h2
theorem Ff (n N:Nat) (es:List (Int × Int)) (L:List Nat) (S p:Nat) (hL:gR N es L) (hS:S<2 ^ 64) (hp:p<2 ^ N) (hN:N≤64) (hn:64<n) :
  ∃q,bG (tL n L S) n (p,p)=some q∧q<2 ^ 64∧∀i,q.testBit i=true↔p.testBit i=true∨∃k,p.testBit k=true∧Ck es k i∧S.testBit i=true:=by
 have h4:=E2 hp hN;have hat:∀k,p.testBit k=true→∃w,L[k]? = some w∧L.getD k 0=w∧w<2 ^ 64∧∀i,w.testBit i=true↔Ck es k i:=fun k hk=>by
  obtain⟨w,h3,h2,h1⟩:=hL.2 k (wI hp hk);exact⟨w,h3,by simp[List.getD,h3],h2,h1⟩
 have:=Je (body:=tL n L S) (fun(r s:Nat)=>(r,s)) (fun s k=>s ||| (L.getD k 0 &&& S)) id (fun s=>s<2 ^ 64) p (fun r s h0 hr hb hs=>?_) (fun s _=>?_) n p p h4 (fun i hi=>hi) h4 (by have:=mF p; omega)
 ·refine⟨_,this,o5 _ _ _ h4 fun k hk=>?_,fun i=>?_⟩
  ·obtain⟨w,_,h2,h1,_⟩:=hat k ((ry h4).1 hk);rw[h2]; exact jK h1
  ·rw[id_eq,yM];simp only[ry h4,Nat.testBit_and,Bool.and_eq_true];constructor
   ·rintro(h|⟨k,hk,h3,h2⟩)
    ·exact .inl h
    ·obtain⟨w,_,e,_,h1⟩:=hat k hk;rw[e] at h3;exact .inr ⟨k,hk,(h1 i).1 h3,h2⟩
   ·rintro(h|⟨k,hk,h3,h2⟩)
    ·exact .inl h
    ·obtain⟨w,_,e,_,h1⟩:=hat k hk;exact .inr ⟨k,hk,by rw[e]; exact(h1 i).2 h3,h2⟩
 ·obtain⟨w,h3,h2,h1,h5⟩:=hat _ hb;have hkN:=wI hp hb;refine⟨?_,by rw[h2]; exact j9 hs (jK h1)⟩
  have hlen:=hL.1;simp only[tL,FI hr,ah,Int.toNat_natCast,h3,h2,gN h1 hS,fH hs (jK (b:=S) h1)];rw[show(!decide (r=0))=true by simp; omega,bI,aw (by omega),aD]
  rfl
 ·simp only[tL]
  rfl
theorem FH (n N:Nat) (es:List (Int × Int)) (L:List Nat) (S i:Nat) (hok:Okay N es) (hL:gR N es L) (hS:S<2 ^ N) (hi:S.testBit i=true) (hn:64<n) :
  ∀(m p k:Nat),p<2 ^ N→p.testBit i=true→(∀j,p.testBit j=true→Rch es S i j)→64-cnt p<m→k=m→∃w,bG (xm n L S) k p=some w∧Fx es S i w:=by
 intro m;have hN:=hok.le;have hS64:=E2 hS hN
 induction m with
 | zero=>intro p k _ _ _ h; exact absurd h (Nat.not_lt_zero _)
 | succ m ih =>
  rintro p k hp hpi hr hm rfl;have h2:=E2 hp hN;obtain⟨q,h3,h4,h1⟩:=Ff n N es L S p hL hS64 hp hN hn;have hbody:xm n L S p=br (decide (q=p)) (some (.inr p)) (some (.inl q)):=by
   unfold xm;rw[ah,h3,ah,ah]
  by_cases hq:q=p
  ·rw[hq,decide_eq_true rfl,bI] at hbody;rw[hq] at h1;exact⟨p,aM hbody,Fx.of h2 hpi hr fun j k hj ha hk=>(h1 k).2 (.inr ⟨j,hj,ha,hk⟩)⟩
  ·rw[bf hq] at hbody;rw[aU hbody];have hsub:∀j,p.testBit j=true→q.testBit j=true:=fun j hj=>(h1 j).2 (.inl hj);have hqr:∀j,q.testBit j=true→Rch es S i j:=fun j hj=>by
    rcases(h1 j).1 hj with h|⟨k,hk,ha,hs⟩
    ·exact hr j h
    ·exact .step (hr k hk) ha hs
   have hqN:q<2 ^ N:=by
    have:∀j,q.testBit j=true→S.testBit j=true:=fun j hj=>(hqr j hj).mem hi;refine Nat.lt_pow_two_of_testBit q fun j hj=>?_;cases e:q.testBit j with
    | false=>rfl
    | true=>have:=wI hS (this j e); omega
   obtain⟨j,h5,h6⟩:∃j,p.testBit j=false∧q.testBit j=true:=by
    apply Classical.byContradiction;intro hno;refine hq (gO fun j=>⟨fun hj=>?_,hsub j⟩);cases e:p.testBit j with
    | true=>rfl
    | false=>exact absurd ⟨j,e,hj⟩ hno
   have hc:=cnt_lt h4 hsub h5 h6;have hcl:cnt q≤64:=mF q;exact ih q m hqN (hsub i hpi) hqr (by omega) rfl
theorem GV (n N:Nat) (es:List (Int × Int)) (L:List Nat) (S:Nat) (hok:Okay N es) (hL:gR N es L) (hS:S<2 ^ N) (hn:65<n) :
  ∀(m r k:Nat) (acc:List Nat),(∀i,r.testBit i=true→S.testBit i=true)→r<2 ^ 64→cnt r<m→m≤k→acc.length+cnt r≤64→∃l,bG (yS n L S) k (acc,r)=some (acc++l)∧Cs es S r l∧l.length≤cnt r:=by
 intro m;have hN:=hok.le
 induction m with
 | zero=>intro r k acc _ _ h; exact absurd h (Nat.not_lt_zero _)
 | succ m ih =>
  intro r k acc hsub hr hm hk hacc;obtain⟨k,rfl⟩:∃k',k=k'+1:=⟨k-1,by omega⟩
  rcases Nat.eq_zero_or_pos r with h0|h0
  ·subst h0;refine⟨[],?_,.nil,Nat.zero_le _⟩;rw[List.append_nil];exact aM (by simp only[yS]; rfl)
  ·obtain⟨hb,_⟩:=ft h0 hr;have hSi:=hsub _ hb;have hiN:=wI hS hSi;obtain⟨w,h1,hw⟩:=FH n N es L S (tz r) hok hL hS hSi (by omega) n (2 ^ tz r) n (Nat.pow_lt_pow_right (by decide) hiN) (by rw[eX]; simp) (fun j hj=>by
    rw[eX,decide_eq_true_eq] at hj; subst hj; exact .refl) (by omega) rfl
   have hwi:w.testBit (tz r)=true:=(hw.2 _).2 .refl;have hlt:cnt (dU .u64 r w)<cnt r:=cnt_lt (i:=tz r) hr (fun i hi=>by
    rw[fI hr hw.1,Bool.and_eq_true] at hi; exact hi.1) (by rw[fI hr hw.1,hwi]; simp) hb
   obtain⟨l,h2,h3,h4⟩:=ih (dU .u64 r w) k (acc++[w]) (fun i hi=>by
    rw[fI hr hw.1,Bool.and_eq_true] at hi; exact hsub i hi.1) (Cr hr hw.1) (by omega) (by omega) (by simp; omega)
   refine⟨w::l,?_,.cons h0 hr hw h3,by simp; omega⟩
   rw[aU (s':=(acc++[w],dU .u64 r w)) ?_,h2,List.append_assoc]; rfl;simp only[yS];rw[show(!decide (r=0))=true by simp; omega,bI,GK h0 hr,h1,ah,ga (by simp; omega),aD]
theorem KU (n N:Nat) (es:List (Int × Int)) (S:Nat) (hok:Okay N es) (hS:S<2 ^ N) (hn:200<n):∃l,NU n (N:Int) es S=some l∧Cs es S S l∧l.length≤64:=by
 obtain⟨L,hL,hA⟩:=Kq n N es hok hn;have hS64:=E2 hS hok.le;have hc:cnt S≤64:=mF S;obtain⟨l,h1,h2,h3⟩:=GV n N es L S hok hA hS (by omega) (cnt S+1) S n [] (fun i h=>h) hS64 (by omega) (by omega) (by simpa using hc)
 refine⟨l,?_,h2,by omega⟩
 unfold NU;rw[hL,ah,h1,ah]; rfl
end Go.Proofs.YtookeaakpiefjaaDoor
end

section
namespace Go.Proofs.YtookeaakpiefjaaDoor
open Go Go.Ab Go.Ab.W Go.Ab.T30
def Dh (es:List (Int × Int)) (l:List Int):List Nat→Prop
 | a::b::r=>(∃k ∈ l,ke es a k=true∧ie es a k=b)∧Dh es l (b::r)
 | _=>True
section
variable {N : Nat} {es : List (Int × Int)} {x : Nat} {l : List Int} {at_ to : Nat} {k : Int}
theorem A3 {k:Int} (hk:k ∈ l) (ht:ke es at_ k=true):Nb (l.map (eg es)) at_ (ie es at_ k):=by
 rcases fq ht with h|h
 ·exact .inl (List.mem_map.2 ⟨k,hk,h⟩)
 ·exact .inr (List.mem_map.2 ⟨k,hk,h⟩)
theorem Ex {a s:Nat} {k:Int} (ht:ke es a k=true) (hs:ke es s k=true):s=a∨s=ie es a k:=by
 rcases fq ht with h|h
 ·simp only[ke,h,Bool.or_eq_true,decide_eq_true_eq] at hs;exact hs.elim (fun e=>.inl e.symm) fun e=>.inr e.symm
 ·simp only[ke,h,Bool.or_eq_true,decide_eq_true_eq] at hs;exact hs.elim (fun e=>.inr e.symm) fun e=>.inl e.symm
theorem zD {s:Nat} (hs:ke es s k=true):∀{r:List Nat} {a t:Nat},Dh es l (a::r)→s ∉ a::r→(a::r).getLast? = some t→Cn ((wo l k).map (eg es)) a t
 | [],a,t,_,_,hl=>by
  simp only[List.getLast?_singleton,Option.some.injEq] at hl;subst hl; exact .refl
 | b::r,a,t,hc,hn,hl=>by
  obtain⟨⟨j,hj,ht,ho⟩,hc⟩:=hc;rw[List.getLast?_cons_cons] at hl;have h1:=zD hs hc (fun h=>hn (List.mem_cons_of_mem _ h)) hl;have hne:j≠k:=by
   rintro rfl;rcases Ex ht hs with e|e
   ·exact hn (e ▸ List.mem_cons_self)
   ·rw[ho] at e; exact hn (e ▸ List.mem_cons_of_mem _ List.mem_cons_self)
  have:=A3 (rv hj hne) ht;rw[ho] at this;exact(Cn.one this).trans h1
theorem Tr.simple (h:Tr N es x l):∀{p q:List Nat} {s t:Nat},Dh es l (s::p)→Dh es l (s::q)→(s::p).Nodup→(s::q).Nodup→(s::p).getLast? = some t→(s::q).getLast? = some t→p=q
 | [],q,s,t,_,_,_,hq,hp,hl=>by
  simp only[List.getLast?_singleton,Option.some.injEq] at hp;subst hp;cases q with
  | nil=>rfl
  | cons b q =>
   rw[List.getLast?_cons_cons] at hl;exact absurd (List.mem_of_getLast? hl) (List.nodup_cons.1 hq).1
 | a::p,[],s,t,_,_,hp,_,hl,hq=>by
  simp only[List.getLast?_singleton,Option.some.injEq] at hq;subst hq;rw[List.getLast?_cons_cons] at hl;exact absurd (List.mem_of_getLast? hl) (List.nodup_cons.1 hp).1
 | a::p,b::q,s,t,hcp,hcq,hp,hq,hlp,hlq=>by
  obtain⟨⟨j,hj,htj,hoj⟩,hcp⟩:=hcp;obtain⟨⟨k,hk,htk,hok⟩,hcq⟩:=hcq;rw[List.getLast?_cons_cons] at hlp hlq;obtain⟨hp1,hp2⟩:=List.nodup_cons.1 hp;obtain⟨hq1,hq2⟩:=List.nodup_cons.1 hq
  by_cases hab:a=b
  ·subst hab;rw[h.simple hcp hcq hp2 hq2 hlp hlq]
  ·exfalso;have h1:=zD htj hcp hp1 hlp;have h2:=zD htj hcq hq1 hlq;have hne:k≠j:=by rintro rfl; exact hab (hoj.symm.trans hok)
   have h3:=A3 (rv hk hne) htk;rw[hok] at h3;have:=h.pU hj htj;rw[hoj] at this;exact this ((Cn.one h3).trans (h2.trans h1.symm))
theorem Fg {a:Nat} {k:Int} (ht:ke es a k=true):ke es (ie es a k) k=true∧ie es (ie es a k) k=a:=by
 rcases fq ht with h|h
 ·refine⟨by simp[ke,h],?_⟩
  have:ie es (ie es a k) k=(eg es k).1+(eg es k).2-ie es a k:=rfl;rw[this,h]; simp
 ·refine⟨by simp[ke,h],?_⟩
  have:ie es (ie es a k) k=(eg es k).1+(eg es k).2-ie es a k:=rfl;rw[this,h]; simp
theorem xj:∀{p:List Nat} {a b:Nat},Dh es l p→p.getLast? = some a→(∃k ∈ l,ke es a k=true∧ie es a k=b)→Dh es l (p++[b])
 | [],_,_,_,_,_=>trivial
 | [c],a,b,_,hl,hk=>by
  simp only[List.getLast?_singleton,Option.some.injEq] at hl;subst hl; exact⟨hk,trivial⟩
 | c::d::p,a,b,hc,hl,hk=>by
  rw[List.getLast?_cons_cons] at hl;exact⟨hc.1,xj (p:=d::p) hc.2 hl hk⟩
theorem B5:∀{p:List Nat},Dh es l p→Dh es l p.reverse
 | [],_=>trivial
 | [_],_=>trivial
 | a::b::p,hc=>by
  obtain⟨⟨k,hk,ht,ho⟩,hc⟩:=hc;rw[List.reverse_cons];have:=Fg ht;rw[ho] at this;exact xj (B5 hc) (by simp) ⟨k,hk,this⟩
theorem Tr.walk (h:Tr N es x l) (n0:Nat) (x1:Int) (h3:70<n0) (hto:to<64):∀(m:Nat) (P:Int→Bool) (at_:Nat) (way:List Int) (n:Nat),(l.filter P).length≤m→at_<64→x.testBit at_=true→Cn ((l.filter P).map (eg es)) at_ to→way.length+m<1000→m<n →
  ∃(p:List Nat) (c:Nat),bG (rX n0 (to:Int) l es x1) n (way,way.length,(at_:Int))=some (way++p.map (fun(v:Nat)=>(v:Int)),c)∧Dh es l (at_::p)∧(at_::p).Nodup∧(at_::p).getLast? = some to∧p.length≤m∧∀v ∈ p,Cn ((l.filter P).map (eg es)) at_ v:=by
 have h5:l.length<64:=by have:=h.len; have:rk x 64≤64:=dO _ _; omega
 intro m
 induction m with
 | zero =>
  intro P at_ way n hm hat hxa hc hway hn;have hnil:l.filter P = []:=List.length_eq_zero_iff.1 (by omega)
  have:at_=to:=by rw[hnil] at hc; exact Ez.1 hc
  subst this;obtain⟨n,rfl⟩:∃k,n=k+1:=⟨n-1,by omega⟩
  exact⟨[],way.length,by rw[List.map_nil,List.append_nil]; exact aM (by unfold rX; simp[br]),trivial,by simp,rfl,Nat.le_refl _,fun v hv=>by cases hv⟩
 | succ m ih =>
  intro P at_ way n hm hat hxa hc hway hn;obtain⟨n,rfl⟩:∃k,n=k+1:=⟨n-1,by omega⟩
  by_cases h2:at_=to
  ·subst h2;exact⟨[],way.length,by rw[List.map_nil,List.append_nil]; exact aM (by unfold rX; simp[br]),trivial,by simp,rfl,Nat.zero_le _,fun v hv=>by cases hv⟩
  ·have hne:¬((at_:Int)=(to:Int)):=by omega
   have h1:=h.Gf (at_:=at_) (to:=to) n0 x1 way (by omega) (by omega) h3 hat hto (by omega) l.length 0 n0 (by omega) (by omega)
   rw[List.drop_zero] at h1;rw[find_congr (p:=cA es l at_ to) (q:=fun k=>P k && cB es (l.filter P) at_ to k) fun k hk=>h.D4 hat hc hk,←kQ] at h1;obtain⟨k0,h4,hcB0⟩:=h.Dq hat h2 hc;cases hf:(l.filter P).find? (cB es (l.filter P) at_ to) with
   | none=>exact absurd hcB0 (List.find?_eq_none.1 hf k0 h4)
   | some k =>
    rw[hf] at h1;simp only at h1;have hk:=List.mem_of_find?_eq_some hf;have hcB:=List.find?_some hf;have hkl:=(List.mem_filter.1 hk).1;have ht:ke es at_ k=true:=by unfold cB at hcB; rw[Bool.and_eq_true] at hcB; exact hcB.1
    have ho:=h.qt hkl ht;have hno:¬Cn ((wo (l.filter P) k).map (eg es)) at_ to:=by
     unfold cB at hcB;rw[ht,Bool.true_and,Bool.not_eq_true',←Bool.not_eq_true,mQ h.ok (fun k' hk'=>h.vl k' (List.mem_filter.1 (dt hk').1).1) hat] at hcB;exact hcB
    have hbe:=behind hk hc ht hno;have hwo:wo (l.filter P) k=l.filter fun z=>(!decide (z=k)) && P z:=by unfold wo; rw[List.filter_filter]
    have hlen:(wo (l.filter P) k).length<(l.filter P).length:=by
     have h6:=@JM (l.filter P) k;have h7:(wo (l.filter P) k).length≠(l.filter P).length:=fun e=>zS.1 e hk;omega
    have hsub:∀e ∈ (wo (l.filter P) k).map (eg es),e ∈ (wo l k).map (eg es):=fun e he=>by
     obtain⟨z,hz,rfl⟩:=List.mem_map.1 he;exact List.mem_map.2 ⟨z,rv (List.mem_filter.1 (dt hz).1).1 (dt hz).2,rfl⟩
    have hsub2:∀e ∈ (wo (l.filter P) k).map (eg es),e ∈ (l.filter P).map (eg es):=fun e he=>by
     obtain⟨z,hz,rfl⟩:=List.mem_map.1 he;exact List.mem_map.2 ⟨z,(dt hz).1,rfl⟩
    rw[hwo] at hbe hlen hsub hsub2;obtain⟨p,c,r0,r1,r2,r3,r5,r4⟩:=ih (fun z=>(!decide (z=k)) && P z) (ie es at_ k) (way++[((ie es at_ k:Nat):Int)]) n (by omega) ho.2 ho.1 hbe (by rw[List.length_append]; simp only[List.length_singleton]; omega) (by omega)
    have hcn:∀v ∈ ie es at_ k::p,Cn ((l.filter fun z=>(!decide (z=k)) && P z).map (eg es)) (ie es at_ k) v:=fun v hv=>by
     rcases List.mem_cons.1 hv with rfl|hv
     ·exact .refl
     ·exact r4 v hv
    refine⟨ie es at_ k::p,c,?_,⟨⟨k,hkl,ht,rfl⟩,r1⟩,List.nodup_cons.2 ⟨fun hm=>?_,r2⟩,by rw[List.getLast?_cons_cons]; exact r3,by simp only[List.length_cons]; omega,fun v hv=>?_⟩
    ·rw[aU (s':=(way++[((ie es at_ k:Nat):Int)],(way++[((ie es at_ k:Nat):Int)]).length,((ie es at_ k:Nat):Int))) (by
      unfold rX;simp only[decide_eq_false hne,Bool.not_false,bI];rw[show bG (qP n0 l es x1 (to:Int) way) n0 ((at_:Int),0)=_ from h1]; rfl)]
     rw[r0,List.append_assoc]; rfl
    ·exact h.pU hkl ht ((hcn at_ hm).mono hsub).symm
    ·exact(Cn.one (A3 hk ht)).trans ((hcn v hv).mono hsub2)
theorem qK:∀{l:List Int} {p:Int},l.Pairwise (· < ·)→(∀k ∈ l,eo es x k=true)→(∀k ∈ l,p<k)→wU es x p l=true
 | [],_,_,_,_=>rfl
 | a::l,p,h,hk,hp=>by
  obtain⟨h1,h2⟩:=List.pairwise_cons.1 h;simp only[wU,hk a List.mem_cons_self,decide_eq_true (hp a List.mem_cons_self),Bool.true_and,Bool.and_true];exact qK h2 (fun k hkl=>hk k (List.mem_cons_of_mem _ hkl)) h1
theorem Ci {k:Int} (h:eo es x k=true):(-1:Int)<k:=by
 have:=(mb h).1.1; omega
theorem oS {x M i:Nat} (h:x<2 ^ M) (hi:x.testBit i=true):i<M:=by
 rcases Nat.lt_or_ge i M with g|g
 ·exact g
 ·have:x<2 ^ i:=Nat.lt_of_lt_of_le h (Nat.pow_le_pow_right (by decide) g)
  rw[Nat.testBit_lt_two_pow this] at hi; cases hi
theorem Gj (h:Tr N es x l) (n:Nat) (hn:64<n):O7 n (N:Int) es x l=some true:=by
 have h4:l.length<64:=by have:=h.len; have:rk x 64≤64:=dO _ _; omega
 have hr:wU es x (-1) l=true:=qK h.asc h.eo (fun k hk=>Ci (h.eo k hk));have:=MI h.ok n (N:Int) x h.hx l (by omega) l.length 0 (-1) n (.inl ⟨rfl,rfl⟩) (by omega) (by omega)
 rw[List.drop_zero] at this;unfold O7;have t0:bG (qW n l (N:Int) es x) n 0=some (if wU es x (-1) l then .inr () else .inl ()):=this
 rw[t0,ah];have htz:=ft (Nat.pos_of_ne_zero h.h0) h.hx;have h2:=gV h.hx htz.1;obtain⟨w,h3,h1⟩:=Iu h.ok (l:=l) h.vl n (tz x) (N:Int) h2 (by omega) (by omega) hn
 have hw:w=x:=gO fun j=>⟨fun hj=>Ae h.ok h.eo htz.1 ((h1.2 j).1 hj),fun hj=>(h1.2 j).2 (h.cn htz.1 hj)⟩;simp only[hr,if_true,Ft n x h.hx hn,ah,size_eq (l:=l) (by omega) (nT h.hx h.h0),KW n x h.hx (Nat.pos_of_ne_zero h.h0) hn,decide_eq_true h.len,bI,h3,decide_eq_true hw]
theorem Tr.Ht (h:Tr N es x l):Ht es x l=true:=by
 unfold Go.Proofs.YtookeaakpiefjaaDoor.Ht;rw[qK h.asc h.eo (fun k hk=>Ci (h.eo k hk)),decide_eq_true h.len,h.all]; rfl
theorem Tr.ck {M:Nat} (h:Tr M es x l) (hg:pN (M:Int) es=true) (hxM:x<2 ^ M):Po (M:Int) es x l=0:=by
 unfold Po;rw[if_pos hg,Int.toNat_natCast,if_neg (fun e=>e.elim h.h0 (fun e=>by omega)),if_pos h.Ht]
theorem AE {M:Nat} (h:Tr M es x l) (hg:pN (M:Int) es=true) (hxM:x<2 ^ M) (hk:k ∈ l) (n:Nat) (hn:300<n):OX n (M:Int) es x l k=some (wX es (wo l k) (tz x),dU .u64 x (wX es (wo l k) (tz x)),0):=by
 have h2:l.length<64:=by have:=h.len; have:rk x 64≤64:=dO _ _; omega
 have hel:=h.ok.len;unfold OX;rw[FJ n M es x l h.hx (by omega) (by omega) (by omega) (by omega) (by omega),ah,h.ck hg hxM]
 obtain⟨h3,h1⟩:=H8 h.hx h.h0;have e0:Du n x=some ((tz x:Nat):Int):=by unfold Du; rw[decide_eq_true h.hx]; rfl
 rw[decide_eq_true (rfl:(0:Int)=0),Bool.not_true,bK,KR n l k (by omega) (by omega),ah,decide_eq_true hk,Bool.not_true,bK,e0,ah,Fp h.ok h.vl k (M:Int) n (tz x) (by omega) (by omega) (by omega) h1,ah]
theorem uf {M:Nat} (h:Tr M es x l) (hg:pN (M:Int) es=true) (hxM:x<2 ^ M) {f t:Nat} (hf:x.testBit f=true) (ht:x.testBit t=true) (n:Nat) (hn:300<n) :
  ∃p:List Nat,M1 n (M:Int) es x l (f:Int) (t:Int)=some ((f::p).map (fun(v:Nat)=>(v:Int)),0)∧Dh es l (f::p)∧(f::p).Nodup∧(f::p).getLast? = some t∧p.length≤64:=by
 have h1:l.length<64:=by have:=h.len; have:rk x 64≤64:=dO _ _; omega
 have hel:=h.ok.len;have hM:=h.ok.le;have hfM:=oS hxM hf;have htM:=oS hxM ht;unfold M1;rw[FJ n M es x l h.hx (by omega) (by omega) (by omega) (by omega) (by omega),ah,h.ck hg hxM,decide_eq_true (rfl:(0:Int)=0),Bool.not_true,bK,HE n M x f t hM h.hx n (by omega),ah]
 have hfilt:l.filter (fun _=>true)=l:=List.filter_eq_self.2 fun _ _=>rfl;obtain⟨p,c,r0,r1,r2,r3,r4,_⟩:=h.walk n (M:Int) (by omega) (show t<64 by omega) l.length (fun _=>true) f [(f:Int)] n (by rw[hfilt]; exact Nat.le_refl _) (by omega) hf (by rw[hfilt]; exact h.cn hf ht) (by simp only[List.length_singleton]; omega) (by omega)
 have r1':bG (rX n (t:Int) l es (M:Int)) n ([(f:Int)],1,(f:Int))=some ([(f:Int)]++p.map (fun(v:Nat)=>(v:Int)),c):=r0;have hok:(Iq M x (f:Int) && Iq M x (t:Int))=true:=by
  unfold Iq;rw[Int.toNat_natCast,Int.toNat_natCast,hf,ht,decide_eq_true (show(0:Int)≤(f:Int)∧(f:Int)<(M:Int) by omega),decide_eq_true (show(0:Int)≤(t:Int)∧(t:Int)<(M:Int) by omega)]; rfl
 rw[if_pos hok];refine⟨p,?_,r1,r2,r3,by omega⟩
 simp only[r1',ah]; rfl
end
section
variable {M : Nat} {es : List (Int × Int)} {x S : Nat} {l : List Int} {k : Int}
theorem tA (hok:pN (M:Int) es=true) (hO:Okay M es) (hS:S<2 ^ M) {v:Nat} (hv:S.testBit v=true) (hr:∀j,S.testBit j=true→Rch es S v j) (n:Nat) (hn:300<n):M6 n (M:Int) es S=some (true,0):=by
 have hel:=hO.len;have hS64:=E2 hS hO.le;have h0:0<S:=by
  rcases Nat.eq_zero_or_pos S with h|h
  ·subst h; rw[Nat.zero_testBit] at hv; cases hv
  ·exact h
 obtain⟨L,l1,l2,l3⟩:=KU n M es S hO hS (by omega)
 unfold M6;have hck:Pf (M:Int) es S=0:=by unfold Pf; rw[if_pos hok,Int.toNat_natCast,if_neg (by omega)]
 rw[MD n (M:Int) es S hS64 (by omega) (by omega) (by omega),ah,hck,decide_eq_true (rfl:(0:Int)=0),Bool.not_true,bK,l1,ah]
 have:L.length=1:=by
  cases l2 with
  | nil=>omega
  | cons g0 gr gw t =>
   rename_i w L;have htz:=(ft h0 hS64).1;have e:w=S:=gO fun j=>⟨fun hj=>((gw.2 j).1 hj).mem htz,fun hj=>(gw.2 j).2 (((hr _ htz).symm hv).trans (hr j hj))⟩;subst e;have hz:dU .u64 w w=0:=k9.2 fun i=>by
    rw[fI gw.1 gw.1]; cases w.testBit i<;>rfl
   rw[hz] at t;cases t with
   | nil=>rfl
   | cons g0=>omega
 rw[this]; rfl
theorem MP {N:Nat} (hO:Okay N es) {l:List Int} (hl:∀k ∈ l,Vl es k) {a b:Nat} (h:Nb (l.map (eg es)) a b):Ck es a b:=by
 have key:∀{a b:Nat},(a,b) ∈ l.map (eg es)→((a:Int),(b:Int)) ∈ es:=fun {a b} h=>by
  obtain⟨k,hk,e⟩:=List.mem_map.1 h;obtain⟨c,d,h1,h2,_⟩:=eY hO (hl k hk);rw[h2] at e; cases e;exact List.mem_of_getElem? h1
 rcases h with h|h
 ·exact .inl (key h)
 ·exact .inr (key h)
theorem Hd {N:Nat} (hO:Okay N es) {l:List Int} (hl:∀k ∈ l,Vl es k) {v j:Nat} (h:Cn (l.map (eg es)) v j) (hS:∀j,Cn (l.map (eg es)) v j→S.testBit j=true):Rch es S v j :=
 (h.closed (Q:=fun j=>Cn (l.map (eg es)) v j∧Rch es S v j) ⟨.refl,.refl⟩ fun a b ⟨q1,q2⟩ hb=>⟨q1.trans (Cn.one hb),.step q2 (MP hO hl hb) (hS b (q1.trans (Cn.one hb)))⟩).2
theorem Ec (h:Tr M es x l) (hk:k ∈ l) {A:Nat} (hA:A=wX es (wo l k) (tz x)) :
  A<2 ^ 64∧A.testBit (tz x)=true∧(∀j,A.testBit j=true→x.testBit j=true)∧(∀j,A.testBit j=true→Rch es A (tz x) j)∧A.testBit (eg es k).1 = !A.testBit (eg es k).2 ∧
  ∃v,x.testBit v=true∧A.testBit v=false∧∀j,(dU .u64 x A).testBit j=true→Rch es (dU .u64 x A) v j:=by
 subst hA;have hO:=h.ok;obtain⟨ht1,ht2⟩:=H8 h.hx h.h0;have hvl:∀z ∈ wo l k,Vl es z:=fun z hz=>h.vl z (dt hz).1;have hinn:∀z ∈ wo l k,eo es x z=true:=fun z hz=>h.eo z (dt hz).1;have hb:∀j,(wX es (wo l k) (tz x)).testBit j=true↔Cn ((wo l k).map (eg es)) (tz x) j:=fun j=>mQ hO hvl ht2;have hlt:=Gn hO hvl ht2;have hx':∀j,(wX es (wo l k) (tz x)).testBit j=true→x.testBit j=true:=fun j hj=>Ae hO hinn ht1 ((hb j).1 hj);have hbr:=h.Fv hk;have hki:=(mb (h.eo k hk)).2;generalize hw:(wo l k).map (eg es)=E at hb hbr;have hall:∀j,x.testBit j=true→Cn E (tz x) j∨(Cn E (tz x) (eg es k).1∧Cn E (eg es k).2 j)∨(Cn E (tz x) (eg es k).2∧Cn E (eg es k).1 j):=fun j hj=>by
  have h1:=h.cn ht1 hj;have h2:Cn (((eg es k).1,(eg es k).2)::E) (tz x) j:=(qg (E:=l.map (eg es)) fun e=>by
   rw[←hw];constructor
   ·intro he;obtain⟨z,hz,rfl⟩:=List.mem_map.1 he
    by_cases hzk:z=k
    ·subst hzk; exact List.mem_cons_self
    ·exact List.mem_cons_of_mem _ (List.mem_map.2 ⟨z,rv hz hzk,rfl⟩)
   ·intro he;rcases List.mem_cons.1 he with rfl|he
    ·exact List.mem_map.2 ⟨k,hk,rfl⟩
    ·obtain⟨z,hz,rfl⟩:=List.mem_map.1 he;exact List.mem_map.2 ⟨z,(dt hz).1,rfl⟩).1 h1
  exact qn.1 h2
 have hone:Cn E (tz x) (eg es k).1∨Cn E (tz x) (eg es k).2:=by
  rcases hall _ hki.1 with g|g|g
  ·exact .inl g
  ·exact .inl g.1
  ·exact .inr g.1
 refine⟨hlt,(hb _).2 .refl,hx',fun j hj=>Hd hO hvl (by rw[hw]; exact(hb j).1 hj) (fun i hi=>(hb i).2 (by rw[←hw]; exact hi)),?_,?_⟩
 ·rw[Bool.eq_iff_iff,Bool.not_eq_true',←Bool.not_eq_true,hb,hb];constructor
  ·exact fun g1 g2=>hbr (g1.symm.trans g2)
  ·exact fun g=>hone.resolve_right g
 ·have main:∀v,x.testBit v=true→¬Cn E (tz x) v→(∀j,x.testBit j=true→¬Cn E (tz x) j→Cn E v j)→∃v,x.testBit v=true∧(wX es (wo l k) (tz x)).testBit v=false∧∀j,(dU .u64 x (wX es (wo l k) (tz x))).testBit j=true→Rch es (dU .u64 x (wX es (wo l k) (tz x))) v j:=fun v hv hnv hj=>by
   refine⟨v,hv,?_,fun j hb'=>?_⟩
   ·rw[←Bool.not_eq_true,hb]; exact hnv
   ·rw[fI h.hx hlt,Bool.and_eq_true,Bool.not_eq_true',←Bool.not_eq_true,hb] at hb';refine Hd hO hvl (by rw[hw]; exact hj j hb'.1 hb'.2) fun i hi=>?_
    rw[hw] at hi;rw[fI h.hx hlt,Bool.and_eq_true,Bool.not_eq_true',←Bool.not_eq_true,hb];exact⟨Ae hO hinn hv (by rw[hw]; exact hi),fun g=>hnv (g.trans hi.symm)⟩
  rcases hone with g|g
  ·refine main _ hki.2 (fun e=>hbr (g.symm.trans e)) fun j hj hn=>?_;rcases hall j hj with q|q|q
   ·exact absurd q hn
   ·exact q.2
   ·exact absurd (g.symm.trans q.1) hbr
  ·refine main _ hki.1 (fun e=>hbr (e.symm.trans g)) fun j hj hn=>?_;rcases hall j hj with q|q|q
   ·exact absurd q hn
   ·exact absurd (q.1.symm.trans g) hbr
   ·exact q.2
end
theorem zt (n M x n':Nat) (hM:M≤64) (hx:x<2 ^ 64) (hn:M<n'):bG (C8 n (M:Int) x) n' ([],0,0)=some ((bW x M).map (fun(v:Nat)=>(v:Int)),(bW x M).length):=by
 have:=gE (body:=C8 n (M:Int) x) M (fun(s:List Int × Nat) (v:Int)=>(s.1,s.2,v)) id (fun i s=>s=((bW x i).map (fun(v:Nat)=>(v:Int)),(bW x i).length)) (fun s i hi hI=>?_) (fun s _=>?_) (n:=n') (s:=([],0)) rfl hn
 ·obtain⟨s,h1,h2⟩:=this;rw[h2] at h1;exact h1
 ·subst hI;refine⟨_,?_,rfl⟩;unfold C8
  dsimp only
  have hlen:(bW x i).length≤i:=dO _ _;rw[decide_eq_true (show((i:Nat):Int)<(M:Int) by omega),bI,decide_eq_true (show(0:Int)≤(i:Int) by omega),aD,Int.toNat_natCast,jH hx (by omega),km,aH (by omega)]
  cases x.testBit i with
  | true =>
   rw[bI,ga (by simp only[List.length_append,List.length_map,List.length_singleton]; omega),aD,ah]
   simp
  | false=>simp[bK,ah]
 ·unfold C8
  dsimp only
  rw[decide_eq_false (by omega)]; rfl
theorem G8 (n:Nat) (l:List Int) (hb:l.length<4611686018427387904):∀(d i j:Nat) (c:List Int) (n':Nat),i+j+1=l.length→j≤i+d→c.length=l.length →
  (∀t,t<l.length→c[t]? = if t<i∨j<t then l[l.length-1-t]? else l[t]?)→d<n'→bG (Aw n l) n' (c,(i:Int),(j:Int))=some l.reverse:=by
 intro d
 induction d using Nat.strongRecOn with
 | _ d ih =>
 intro i j c n' hij hd hc hI hn';obtain⟨n',rfl⟩:∃k,n'=k+1:=⟨n'-1,by omega⟩
 by_cases hlt:i<j
 ·have hi:c[i]? = some (l[i]'(by omega)):=by rw[hI i (by omega),if_neg (by omega)]; exact List.getElem?_eq_getElem _
  have hj:c[j]? = some (l[j]'(by omega)):=by rw[hI j (by omega),if_neg (by omega)]; exact List.getElem?_eq_getElem _
  have hj2:(c.set i (l[j]'(by omega)))[j]? = some (l[j]'(by omega)):=by rw[List.getElem?_set_ne (by omega)]; exact hj
  have hs:Aw n l (c,(i:Int),(j:Int))=some (.inl (((c.set i (l[j]'(by omega))).set j (l[i]'(by omega))),((i+1:Nat):Int),((j-1:Nat):Int))):=by
   unfold Aw
   dsimp only
   rw[decide_eq_true (show((i:Nat):Int)<(j:Int) by omega),bI,aw (show j<l.length by omega),aD,Int.toNat_natCast,hj,ah,aw (show i<l.length by omega),aD,Int.toNat_natCast,hi,ah,aD,aD,hj2,ah,aH (by omega)]
   rw[show IntKind.wrap .i64 ((j:Int)-1)=((j-1:Nat):Int) from by rw[aR (by omega) (by omega)]; omega]
  rw[aU hs];have hd2:d≠0:=by omega
  refine ih (d-2) (by omega) (i+1) (j-1) _ n' (by omega) (by omega) (by rw[List.length_set,List.length_set]; exact hc) (fun t ht=>?_) (by omega)
  by_cases t1:t=j
  ·subst t1;rw[List.getElem?_set_self (by rw[List.length_set]; omega),if_pos (by omega),show l.length-1-t=i by omega]
   exact(List.getElem?_eq_getElem _).symm
  ·rw[List.getElem?_set_ne (by omega)]
   by_cases t2:t=i
   ·subst t2;rw[List.getElem?_set_self (by omega),if_pos (by omega),show l.length-1-t=j by omega]
    exact(List.getElem?_eq_getElem _).symm
   ·rw[List.getElem?_set_ne (by omega),hI t ht]
    by_cases t3:t<i∨j<t
    ·rw[if_pos t3,if_pos (by omega)]
    ·rw[if_neg t3,if_neg (by omega)]
 ·have he:c=l.reverse:=by
   apply List.ext_getElem? fun t=>?_
   by_cases ht:t<l.length
   ·rw[hI t ht,List.getElem?_reverse ht]
    by_cases t3:t<i∨j<t
    ·rw[if_pos t3]
    ·rw[if_neg t3,show l.length-1-t=t by omega]
   ·rw[List.getElem?_eq_none (by omega),List.getElem?_eq_none (by rw[List.length_reverse]; omega)]
  rw[he];refine aM ?_;unfold Aw
  dsimp only
  rw[decide_eq_false (by omega)]; rfl
theorem rev_eq (n n':Nat) (l:List Int) (hb:l.length<4611686018427387904) (h0:0<l.length) (hn:l.length<n'):bG (Aw n l) n' (l,0,IntKind.wrap .i64 ((l.length:Int)-1))=some l.reverse:=by
 have e:IntKind.wrap .i64 ((l.length:Int)-1)=((l.length-1:Nat):Int):=by rw[aR (by omega) (by omega)]; omega
 rw[e];exact G8 n l hb l.length 0 (l.length-1) l n' (by omega) (by omega) rfl (fun t ht=>by rw[if_neg (by omega)]) hn
section
variable {M : Nat} {es : List (Int × Int)} {x : Nat} {l : List Int} {k : Int}
theorem FV (hO:Okay M es) {w:List Int} {i u v:Nat} (hl:∀k ∈ l,Vl es k) (hu:w[i]? = some (u:Int)) (hk:k ∈ l) (ht:ke es u k=true) (ho:ie es u k=v) (n n':Nat) (hb:l.length<4611686018427387904) (hi:i<1000) (hn:l.length<n') :
  ∃r,bG (Ad n l es ((i+1:Nat):Int) w (v:Int)) n' 0=some (.inl r)∧0≤r:=by
 have hw:=(List.getElem?_eq_some_iff.1 hu).1;have hj:IntKind.wrap .i64 (((i+1:Nat):Int)-1)=(i:Int):=by rw[aR (by omega) (by omega)]; omega
 have loop:∀(d j n':Nat),j+d=l.length→k ∈ l.drop j→d<n'→∃r,bG (Ad n l es ((i+1:Nat):Int) w (v:Int)) n' ((j:Nat):Int)=some (.inl r)∧0≤r:=by
  intro d
  induction d with
  | zero =>
   intro j n' hj hm _;rw[List.drop_eq_nil_of_le (by omega)] at hm; cases hm
  | succ d ih =>
   intro j n' hjd hm hn';obtain⟨n',rfl⟩:∃k,n'=k+1:=⟨n'-1,by omega⟩
   have hlt:j<l.length:=by omega
   have hz:l[j]? = some l[j]:=List.getElem?_eq_getElem hlt;generalize hzz:l[j]=z at hz;obtain⟨a,b,e1,e2,e3,e4,e5,e6⟩:=eY hO (hl z (List.mem_of_getElem? hz));have st:Ad n l es ((i+1:Nat):Int) w (v:Int) ((j:Nat):Int)=if (decide ((a:Int)=mi (v:Int) (u:Int)) && decide ((b:Int)=ma (v:Int) (u:Int)))=true then some (.inr (.inl (j:Int))) else some (.inl ((j+1:Nat):Int)):=by
    unfold Ad;rw[decide_eq_true (show((j:Nat):Int)<(l.length:Int) by omega),bI,aw hlt,aD,Int.toNat_natCast,hz,ah,e6,aD,e1,ah]
    dsimp only
    rw[hj,aw hw,aD,Int.toNat_natCast,hu,ah,aD,ah,qT,aH (by omega)]
   by_cases hzk:z=k
   ·subst hzk;have hab:decide ((a:Int)=mi (v:Int) (u:Int))=true∧decide ((b:Int)=ma (v:Int) (u:Int))=true:=by
     rcases fq ht with h|h
     ·rw[ho,e2] at h; cases h;exact⟨decide_eq_true (by unfold mi; split<;>omega),decide_eq_true (by unfold ma; split<;>omega)⟩
     ·rw[ho,e2] at h; cases h;exact⟨decide_eq_true (by unfold mi; split<;>omega),decide_eq_true (by unfold ma; split<;>omega)⟩
    rw[hab.1,hab.2] at st;exact⟨_,aM st,Int.natCast_nonneg _⟩
   ·rw[List.drop_eq_getElem_cons hlt,hzz] at hm;have hm':=(List.mem_cons.1 hm).resolve_left (fun e=>hzk e.symm)
    split at st
    ·exact⟨_,aM st,Int.natCast_nonneg _⟩
    ·rw[aU st];exact ih (j+1) n' (by omega) hm' (by omega)
 exact loop l.length 0 n' (by omega) (by rw[List.drop_zero]; exact hk) hn
theorem Fu:∀{p:List Nat} {i u v:Nat},Dh es l p→p[i]? = some u→p[i+1]? = some v→∃k ∈ l,ke es u k=true∧ie es u k=v
 | [],_,_,_,_,h,_=>by cases h
 | [_],_,_,_,_,_,h=>by simp at h
 | a::b::r,0,u,v,hc,hu,hv=>by
  simp only[List.getElem?_cons_zero,Option.some.injEq,List.getElem?_cons_succ] at hu hv;subst hu; subst hv; exact hc.1
 | a::b::r,i+1,u,v,hc,hu,hv=>by
  rw[List.getElem?_cons_succ] at hu hv;exact Fu hc.2 hu hv
theorem HG (h:Tr M es x l):∀{p:List Nat} {a:Nat},Dh es l (a::p)→x.testBit a=true→∀v ∈ a::p,x.testBit v=true
 | [],a,_,ha,v,hv=>by rw[List.mem_singleton.1 hv]; exact ha
 | b::p,a,hc,ha,v,hv=>by
  rcases List.mem_cons.1 hv with rfl|hv
  ·exact ha
  ·obtain⟨⟨k,hk,ht,ho⟩,hc⟩:=hc;exact HG h hc (by rw[←ho]; exact(h.qt hk ht).1) v hv
theorem Hx (h:Tr M es x l) (hxM:x<2 ^ M) (n:Nat) (hn:300<n) {p:List Nat} (hc:Dh es l p) (hnd:p.Nodup) (hx:∀v ∈ p,x.testBit v=true) (hlen:p.length≤65) :
  bG (Dn n (p.map (fun(v:Nat)=>(v:Int))) (M:Int) l es) n (0,0)=some (.inr ()):=by
 have h2:l.length<64:=by have:=h.len; have:rk x 64≤64:=dO _ _; omega
 have hM:=h.ok.le;have:=gE (body:=Dn n (p.map (fun(v:Nat)=>(v:Int))) (M:Int) l es) p.length (fun(s:Nat) (v:Int)=>(s,v)) (fun _=>Sum.inr ()) (fun i s=>s<2 ^ 64∧∀v,s.testBit v=true→v ∈ p.take i) (fun s i hi hI=>?_) (fun s _=>?_) (n:=n) (s:=0) ⟨by decide,fun v hv=>by rw[Nat.zero_testBit] at hv; cases hv⟩ (by omega)
 ·obtain⟨s,h1,h3⟩:=this;exact h1
 ·obtain⟨hs,hI⟩:=hI;have hget:p[i]? = some p[i]:=List.getElem?_eq_getElem hi;generalize hv:p[i]=v at hget;have hvm:=List.mem_of_getElem? hget;have hvM:=oS hxM (hx v hvm);have hmap:(p.map (fun(v:Nat)=>(v:Int)))[i]? = some (v:Int):=by rw[List.getElem?_map,hget]; rfl
  have hnot:s.testBit v=false:=by
   rw[←Bool.not_eq_true];intro hb;have:=hI v hb;obtain⟨j,hj,e⟩:=List.getElem_of_mem this;rw[List.length_take] at hj;rw[List.getElem_take] at e;have:=(List.getElem_inj (h₀:=by omega) (h₁:=hi) hnd).1 (e.trans hv.symm)
   omega
  have hin:(ob (br (decide (0<((i:Nat):Int))) (ob (ob (ob (α:=(Int) ⊕ (Unit)) (bG (Ad n l es ((i:Nat):Int) (p.map (fun(v:Nat)=>(v:Int))) (v:Int)) n 0) fun r0=>match r0 with
    | .inl v0=>some v0
    | .inr _=>some (-1)) fun v1=>some (decide (0≤v1))) fun v2=>some (!v2)) (some false)) fun v3=>br (v3) (some (.inr (.inl ()))) (some (.inl (uw .u64 (uw .u64 s ||| uw .u64 (ej .u64 1 v)),IntKind.wrap .i64 (((i:Nat):Int)+1)))):Option ((Nat × Int) ⊕ ((Unit) ⊕ (Unit))))=some (.inl (s ||| 2 ^ v,((i+1:Nat):Int))):=by
   rw[gK (show v<64 by omega),ub hs (show v<64 by omega),aH (by omega)]
   cases i with
   | zero=>rfl
   | succ i =>
    have hu:p[i]? = some (p[i]'(by omega)):=List.getElem?_eq_getElem _
    generalize p[i]'(by omega)=u at hu
    obtain⟨k,hk,ht,ho⟩:=Fu hc hu hget;obtain⟨r,r1,r2⟩:=FV h.ok (w:=p.map (fun(v:Nat)=>(v:Int))) (i:=i) (u:=u) (v:=v) h.vl (by rw[List.getElem?_map,hu]; rfl) hk ht ho n n (by omega) (by omega) (by omega)
    rw[decide_eq_true (show(0:Int)<((i+1:Nat):Int) by omega),bI,r1,ah]
    dsimp only
    rw[ah,decide_eq_true r2,ah,ah]; rfl
  refine⟨s ||| 2 ^ v,?_,Nat.or_lt_two_pow hs (dB (by omega)),fun w hw=>?_⟩
  ·unfold Dn
   dsimp only
   rw[List.length_map,decide_eq_true (show((i:Nat):Int)<(p.length:Int) by omega),bI,aw hi,aD,Int.toNat_natCast,hmap,ah,decide_eq_false (show ¬(v:Int)<0 by omega),bK,decide_eq_false (show ¬(M:Int)≤(v:Int) by omega),bK,decide_eq_true (show(0:Int)≤(v:Int) by omega),aD,Int.toNat_natCast,jH hs (by omega),hnot,ah,bK,aD]
   exact hin
  ·rw[Nat.testBit_or,Bool.or_eq_true,eX,decide_eq_true_eq] at hw;rcases hw with hw|rfl
   ·exact List.take_subset_take_left _ (by omega) (hI w hw)
   ·rw[List.mem_take_iff_getElem];exact⟨i,by omega,hv⟩
 ·unfold Dn
  dsimp only
  rw[List.length_map,decide_eq_false (by omega)]; rfl
end
theorem Ji (n x1 x2 x8:Nat) (l1:List (Nat × Nat)) (x7 x3 x4 x5 x6:Nat) (h6:x7<2 ^ 64) (h7:x3<4294967296) (h11:x4<256) (h12:x5<256) (h13:x6<256) (hn:1073741825<n):F4 n x1 x2 x8 l1 x7 x3 x4 x5 x6=some true:=by
 obtain⟨N,es,g0,hok⟩:=Np n x1 x2 x8 l1 (by omega)
 obtain⟨M,rfl,hO⟩:=p7 hok;obtain⟨w,g1,a0,a1⟩:=MB n M x7 es hO.le h6 (by omega)
 have h14:2 ^ M≤2 ^ 64:=Nat.pow_le_pow_right (by decide) hO.le
 have hw:w<2 ^ 64:=by omega
 have hl:=hO.len;unfold F4;simp only[F6,ah,Bool.not_true,bK,g0,g1]
 by_cases h0:w=0
 ·have hc:HL (M:Int) es w=2:=by unfold HL; rw[if_pos hok,if_pos (.inl h0)]
  have hF:Kw n (M:Int) es w=some (0,0,0,0,0,0,0,0,2):=by
   unfold Kw;rw[AU n (M:Int) es w hw (by omega) (by omega) (by omega),ah,hc]; rfl
  rw[hF,ah]
  dsimp only
  rw[Cp (by omega),ah]; rfl
 have hc:HL (M:Int) es w=0:=by
  unfold HL;rw[if_pos hok,if_neg];rintro(h|h)
  ·exact h0 h
  ·rw[Int.toNat_natCast] at h; omega
 have hle:=vf hok hO hw h0 a1;rw[CP hw hl (by omega) hok hO a1 hc]
 simp only[ah];rw[Cp hle];simp only[ah]
 by_cases hz:(j5 es w).length=0
 ·rw[bB (show(((j5 es w).length:Nat):Int)=0 by omega),ah,bI]
 rw[bf (show ¬(((j5 es w).length:Nat):Int)=0 by omega),ah]
 by_cases hone:uw .u64 (uw .u64 w &&& uw .u64 (fc .u64 w 1))=0
 ·rw[bB hone]
 rw[bf hone];have hd:decide ((((j5 es w).length:Nat):Int)≠0)=true:=decide_eq_true (by omega)
 rw[hd,aD];have hm:∀(y c:Nat),y<4294967296→0<c→Int.tmod (IntKind.wrap .i64 ((y:Nat):Int)) ((c:Nat):Int)=((y%c:Nat):Int):=fun y c hy hc=>by
  rw[aR (by omega) (by omega),Int.tmod_eq_emod_of_nonneg (by omega)]; omega
 rw[hm x3 _ h7 (by omega)]
 have hi:x3%(j5 es w).length<(j5 es w).length:=Nat.mod_lt _ (by omega)
 generalize x3%(j5 es w).length=i at hi;have ei:(j5 es w)[i]? = some (j5 es w)[i]:=List.getElem?_eq_getElem hi;generalize (j5 es w)[i]=l at ei;have mA:=List.mem_of_getElem? ei;have hT:Ht es w l=true:=D5 hw h0 mA;obtain⟨t0,t1,t2,t3⟩:=Jv hT;have h:Tr M es w l:=⟨hO,hw,h0,t0,t1,t2,t3⟩;have h15:l.length<64:=by have:=h.len; have:rk w 64≤64:=dO _ _; omega
 obtain⟨p1,p2⟩:=FN (n:=n) (v:=i) (by omega) (by omega)
 rw[D1 (by omega),ah]
 dsimp only
 rw[(Aj hw hl (by omega) hok hO a1 hc p1 p2 (by omega)).1 i l rfl ei,ah]
 dsimp only
 obtain⟨h1,h8⟩:=H8 hw h0;have hlpos:0<l.length:=by
  rcases Nat.eq_zero_or_pos l.length with e|e
  ·exfalso;apply hone;have h9:rk w 64=1:=by rw[←h.len,e]
   have hclr:DU w=0:=by
    rw[k9];intro j;rw[qj (Nat.pos_of_ne_zero h0) hw]
    by_cases hj:j=tz w
    ·rw[decide_eq_true hj]; simp
    ·rw[decide_eq_false hj,Bool.not_false,Bool.and_true,←Bool.not_eq_true];intro hb;have m1:tz w ∈ bW w 64:=bT.2 ⟨h8,h1⟩;have m2:j ∈ bW w 64:=bT.2 ⟨gV hw hb,hb⟩;obtain⟨a,ha⟩:=List.length_eq_one_iff.1 (show(bW w 64).length=1 from h9)
     rw[ha,List.mem_singleton] at m1 m2;exact hj (m2.trans m1.symm)
   exact hclr
  ·exact e
 rw[decide_eq_true (rfl:(0:Int)=0),Bool.not_true,bK,decide_eq_false (show ¬((l.length:Int)=0) by omega),bK,Gj h n (by omega),ah,Bool.not_true,ah,bK,decide_eq_true (show(l.length:Int)≠0 by omega),aD,hm x4 l.length (by omega) hlpos]
 have h2:x4%l.length<l.length:=Nat.mod_lt _ hlpos;generalize x4%l.length=ki at h2;have ek:l[ki]? = some l[ki]:=List.getElem?_eq_getElem h2;generalize l[ki]=k at ek;have hk:=List.mem_of_getElem? ek;rw[aw h2,aD,Int.toNat_natCast,ek,ah,AE h hok a0 hk n (by omega),ah]
 dsimp only
 obtain⟨s0,s2,s3,s4,s1,v,s5,s6,s7⟩:=Ec h hk rfl;generalize wX es (wo l k) (tz w)=A at s0 s2 s3 s4 s1 s5 s6 s7 ⊢;have hAM:A<2 ^ M:=by
  refine Nat.lt_pow_two_of_testBit A fun i hi=>?_;rw[←Bool.not_eq_true];exact fun hb=>by have:=oS a0 (s3 i hb); omega
 have hBM:dU .u64 w A<2 ^ M:=by
  refine Nat.lt_pow_two_of_testBit _ fun i hi=>?_;rw[←Bool.not_eq_true,fI hw s0,Bool.and_eq_true];exact fun hb=>by have:=oS a0 hb.1; omega
 have hBv:(dU .u64 w A).testBit v=true:=by rw[fI hw s0,s5,s6]; rfl
 rw[tA hok hO hAM s2 s4 n (by omega),ah]
 dsimp only
 rw[tA hok hO hBM hBv s7 n (by omega),ah]
 dsimp only
 obtain⟨a,b,e0,e1,e6,e7,e8,e2⟩:=eY hO (h.vl k hk);rw[e1] at s1
 dsimp only at s1
 have hB64:=Cr hw s0;have hor:A ||| dU .u64 w A=w:=gO fun i=>by
  rw[Nat.testBit_or,fI hw s0,Bool.or_eq_true,Bool.and_eq_true,Bool.not_eq_true'];constructor
  ·rintro(g|g)
   ·exact s3 i g
   ·exact g.1
  ·intro g;cases e:A.testBit i with
   | true=>exact .inl rfl
   | false=>exact .inr ⟨g,rfl⟩
 have hand:A &&& dU .u64 w A=0:=k9.2 fun i=>by
  rw[Nat.testBit_and,fI hw s0];cases A.testBit i<;>simp
 have e3:Du n w=some ((tz w:Nat):Int):=FI hw;have hbits:(decide (uw .u64 (uw .u64 (bu .u64 A a) &&& uw .u64 1)=uw .u64 (uw .u64 (bu .u64 A b) &&& uw .u64 1)))=false:=by
  have b0:=jH (a:=A) (k:=a) s0 (by omega)
  have b1:=jH (a:=A) (k:=b) s0 (by omega)
  rw[decide_eq_false_iff_not];intro e;rw[e,b1] at b0;rw[b0] at s1;cases h:A.testBit a<;>rw[h] at s1<;>cases s1
 rw[e2,aD,e0,ah]
 dsimp only
 rw[aD,decide_eq_true (rfl:(0:Int)=0),Bool.not_true,bK,bK,bK,bK,bK,fH s0 hB64,hor,decide_eq_true rfl,Bool.not_true,bK,gN s0 hB64,hand,decide_eq_true rfl,Bool.not_true,bK,e3,ah,decide_eq_true (show(0:Int)≤((tz w:Nat):Int) by omega),aD,Int.toNat_natCast,sx s0 (by omega),s2,Bool.not_true,bK,decide_eq_true (show(0:Int)≤(a:Int) by omega),aD,decide_eq_true (show(0:Int)≤(b:Int) by omega),aD,Int.toNat_natCast,Int.toNat_natCast,hbits,ah,bK,zt n M w n hO.le hw (by have:=hO.le; omega),ah]
 dsimp only
 have hnl:0<(bW w M).length:=List.length_pos_of_mem (bT.2 ⟨oS a0 h1,h1⟩);rw[decide_eq_true (show(((bW w M).length:Nat):Int)≠0 by omega),aD,hm x5 _ (by omega) hnl,hm x6 _ (by omega) hnl]
 have h3:x5%(bW w M).length<(bW w M).length:=Nat.mod_lt _ hnl;have h4:x6%(bW w M).length<(bW w M).length:=Nat.mod_lt _ hnl;generalize x5%(bW w M).length=si at h3;generalize x6%(bW w M).length=ti at h4;have es':(bW w M)[si]? = some (bW w M)[si]:=List.getElem?_eq_getElem h3;have et':(bW w M)[ti]? = some (bW w M)[ti]:=List.getElem?_eq_getElem h4;generalize (bW w M)[si]=s at es';generalize (bW w M)[ti]=t at et';have hs:=(bT.1 (List.mem_of_getElem? es')).2;have ht:=(bT.1 (List.mem_of_getElem? et')).2;have e4:((bW w M).map (fun(v:Nat)=>(v:Int)))[si]? = some (s:Int):=by rw[List.getElem?_map,es']; rfl
 have e5:((bW w M).map (fun(v:Nat)=>(v:Int)))[ti]? = some (t:Int):=by rw[List.getElem?_map,et']; rfl
 rw[aw h3,aD,Int.toNat_natCast,e4,ah,aD,aw h4,aD,Int.toNat_natCast,e5,ah];obtain⟨p,q3,q0,q1,q2,q4⟩:=uf h hok a0 hs ht n (by omega)
 obtain⟨q,r0,r1,r2,r3,r4⟩:=uf h hok a0 ht hs n (by omega)
 have hrev:s::p=(t::q).reverse:=by
  have c1:=B5 r1;have c2:(t::q).reverse.Nodup:=List.pairwise_reverse.2 (r2.imp fun h=>Ne.symm h);have c0:(t::q).reverse.head? = some s:=by rw[List.head?_reverse]; exact r3
  have c3:(t::q).reverse.getLast? = some t:=by rw[List.getLast?_reverse]; rfl
  cases hr:(t::q).reverse with
  | nil=>rw[hr] at c0; cases c0
  | cons s' p' =>
   rw[hr] at c1 c2 c0 c3;simp only[List.head?_cons,Option.some.injEq] at c0;subst c0;rw[h.simple q0 c1 q1 c2 q2 c3]
 rw[q3,ah]
 dsimp only
 rw[r0,ah]
 dsimp only
 have hrl:((t::q).map (fun(v:Nat)=>(v:Int))).length≤65:=by rw[List.length_map,List.length_cons]; omega
 rw[rev_eq n n _ (by omega) (by rw[List.length_map]; exact Nat.succ_pos _) (by omega),ah,ah]
 have hmr:((t::q).map (fun(v:Nat)=>(v:Int))).reverse=(s::p).map (fun(v:Nat)=>(v:Int)):=by rw[←List.map_reverse,←hrev]
 rw[hmr];have hpl:((s::p).map (fun(v:Nat)=>(v:Int))).length≤65:=by rw[List.length_map,List.length_cons]; omega
 have hlast:((s::p).map (fun(v:Nat)=>(v:Int)))[((s::p).map (fun(v:Nat)=>(v:Int))).length-1]? = some (t:Int):=by
  rw[←List.getLast?_eq_getElem?,List.getLast?_map,q2]; rfl
 have hhead:((s::p).map (fun(v:Nat)=>(v:Int)))[0]? = some (s:Int):=rfl;have h5:0<((s::p).map (fun(v:Nat)=>(v:Int))).length:=by rw[List.length_map]; exact Nat.succ_pos _
 have hloop:=Hx h a0 n (by omega) q0 q1 (HG h q0 hs) (by rw[List.length_cons]; omega)
 have hsame:=D0 n ((s::p).map (fun(v:Nat)=>(v:Int))) (by omega) (by omega)
 generalize (s::p).map (fun(v:Nat)=>(v:Int))=W at hpl hlast hhead h5 hloop hsame ⊢;have h10:IntKind.wrap .i64 ((W.length:Int)-1)=((W.length-1:Nat):Int):=by rw[aR (by omega) (by omega)]; omega
 rw[decide_eq_true (rfl:(0:Int)=0),Bool.not_true,bK,bK,decide_eq_false (show ¬((W.length:Int)=0) by omega),bK,show bE 0 W.length=true from aw h5,aD,show W[(0:Int).toNat]? = some (s:Int) from hhead,ah,decide_eq_true rfl,Bool.not_true,bK,h10,aw (show W.length-1<W.length by omega),aD,Int.toNat_natCast,hlast,ah,decide_eq_true rfl,Bool.not_true,bK,hsame,ah,ah,Bool.not_true,bK,hloop,ah]
end Go.Proofs.YtookeaakpiefjaaDoor
end
