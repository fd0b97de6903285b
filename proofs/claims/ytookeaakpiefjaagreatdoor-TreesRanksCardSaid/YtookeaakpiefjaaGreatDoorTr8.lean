/- A part of the proof. -/
import Derived.Test.YtookeaakpiefjaaGreatDoorTr7
section
namespace Go.Proofs.YtookeaakpiefjaaGreatDoor
open Go Go.Ab Go.Ab.W Go.Ab.T30
theorem C2 {l:List Nat} {a b:Nat} (ha:a ∈ l) (h:l.idxOf a=l.idxOf b):a=b:=by
 have h1:l.idxOf a<l.length:=List.idxOf_lt_length_iff.2 ha;have e1:l[l.idxOf a]? = some a:=by rw[List.getElem?_eq_getElem h1,List.getElem_idxOf]
 have h2:l.idxOf b<l.length:=by rw[←h]; exact h1
 have e2:l[l.idxOf b]? = some b:=by rw[List.getElem?_eq_getElem h2,List.getElem_idxOf]
 rw[h,e2] at e1;exact(Option.some.inj e1).symm
theorem BI {l:List Nat} {a:Nat}:l.idxOf a≤l.length:=List.idxOf_le_length
def kx (es:List (Int × Int)) (x:Nat) (O:List (Int × Bool)):List Int:=((List.range es.length).filter (ki es x O)).map fun(k:Nat)=>(k:Int)
theorem G0 (es:List (Int × Int)) (x:Nat) (O:List (Int × Bool)):(kx es x O).map (eg es)=kl es x O es.length:=by
 unfold kx kl;rw[List.map_map]; rfl
theorem NT {es:List (Int × Int)} {x:Nat} {O:List (Int × Bool)} {k:Int} (h:k ∈ kx es x O):eW es x k=true:=by
 obtain⟨m,h1,rfl⟩:=List.mem_map.1 h;have:=(List.mem_filter.1 h1).2;unfold ki at this;rw[Bool.and_eq_true] at this;exact this.1
theorem Dk {N:Nat} {es:List (Int × Int)} (h:Okay N es) {x:Nat} {k:Int} (hk:eW es x k=true):(eg es k).1 ∈ dU x 64∧(eg es k).2 ∈ dU x 64:=by
 obtain⟨h1,h2,h3⟩:=mZ hk;obtain⟨a,b,_,e,e1,e2,_⟩:=gm h h1;rw[e] at h2 h3 ⊢;exact⟨df.2 ⟨by omega,h2⟩,df.2 ⟨e2,h3⟩⟩
theorem IZ {N:Nat} {es:List (Int × Int)} (h:Okay N es) {x:Nat} {W:List (Int × Bool)} {i j:Nat}:∀e ∈ wl es x W i j,e.1 ∈ dU x 64∧e.2 ∈ dU x 64:=fun e he=>by
 obtain⟨m,h1,rfl⟩:=List.mem_map.1 he;have:=(List.mem_filter.1 h1).2;unfold wi at this;rw[Bool.and_eq_true] at this;exact Dk h this.1
section
variable {N : Nat} {es : List (Int × Int)} {x : Nat} {W O : List (Int × Bool)}
theorem Mq:Rt (rW es x W) (wl es x W 0 es.length).reverse:=vV _
theorem B5 (h:Okay N es) {v:Nat} (hv:v ∈ dU x 64):rW es x W v ∈ dU x 64:=(jw (pP x) (IZ h)).2 v hv
theorem sN (hx:x<2 ^ 64) (h0:0<x):tz x ∈ dU x 64:=df.2 ⟨oX hx (nd h0 hx).1,(nd h0 hx).1⟩
theorem Ho {v:Nat}:v ∈ pW es x W↔v ∈ dU x 64∧rW es x W v=v∧v≠rW es x W (tz x):=by
 unfold pW tX Ms;rw[List.mem_filter,List.mem_range,df];simp[and_assoc]
theorem Gs (h:Okay N es) (hx:x<2 ^ 64) (h0:0<x):jx (dU x 64) (rW es x W)=(pW es x W).length+1:=by
 have hg:=B5 (W:=W) h (sN hx h0);have hrr:=(Mq (es:=es) (x:=x) (W:=W)).rr (tz x);have e1:jx (dU x 64) (rW es x W)=((List.range 64).filter fun v=>x.testBit v && rW es x W v == v).length:=by
  unfold jx dU;rw[List.filter_filter]
  congr 2
  funext v
  exact Bool.and_comm _ _
 rw[e1];unfold pW tX;refine kU (a:=rW es x W (tz x)) List.nodup_range (List.mem_range.2 (df.1 hg).1) ?_ fun v=>?_
 ·simp[(df.1 hg).2,hrr]
 ·unfold Ms;simp
theorem Oa (h:Okay N es) (hx:x<2 ^ 64) (h0:0<x) (ha:aY (fun x=>x) (wl es x W 0 es.length)=true):(pW es x W).length+1+(wl es x W 0 es.length).length=rk x 64:=by
 have h1:=(jw (pP x) (IZ (W:=W) (i:=0) (j:=es.length) h)).1;have h2:=(qa (wl es x W 0 es.length) fun x=>x).2 ha;rw[h2] at h1;have h3:=Gs (W:=W) h hx h0;unfold rk;have e:rep (wl es x W 0 es.length)=rW es x W:=rfl;rw[e] at h1;omega
theorem Nj (h:Okay N es) {v w:Nat} (hv:v ∈ dU x 64) (hw:w ∈ dU x 64):rW es x W v=rW es x W w↔(pW es x W).idxOf (rW es x W v)=(pW es x W).idxOf (rW es x W w):=by
 refine⟨fun e=>by rw[e],fun e=>?_⟩
 have hrr:=fun v=>(Mq (es:=es) (x:=x) (W:=W)).rr v
 by_cases h1:rW es x W v ∈ pW es x W
 ·exact C2 h1 e
 ·by_cases h2:rW es x W w ∈ pW es x W
  ·exact(C2 h2 e.symm).symm
  ·have g1:rW es x W v=rW es x W (tz x):=Classical.byContradiction fun hc=>h1 (Ho.2 ⟨B5 h hv,hrr v,hc⟩);have g2:rW es x W w=rW es x W (tz x):=Classical.byContradiction fun hc=>h2 (Ho.2 ⟨B5 h hw,hrr w,hc⟩);rw[g1,g2]
theorem Qv (s:Nat):dg s (fun i=>i)=s:=by
 unfold dg;rw[List.filter_eq_self.2 (fun i _=>by simp)]
 exact List.length_range
theorem O5 (h:Okay N es) {n:Nat} (hx:x<2 ^ 64) (h0:0<x) (hn:300<n) (x1:Int) (hk:(kx es x O).length≤63) :
  (aY (fun x=>x) (wl es x W 0 es.length)=false→Bn n x1 es x W O=some (false,[])) ∧
  (aY (fun x=>x) (wl es x W 0 es.length)=true→∃t q,Bn n x1 es x W O=some (t,q)∧Lg ((gw es (kx es x O) (pW es x W).length (rW es x W)).length:Int) t q):=by
 have hF:=ME h hx h0 hn x1 W O;refine⟨hF.1,fun ha=>?_⟩;have hkl:(kl es x O es.length).length≤63:=by rw[←G0,List.length_map]; exact hk
 obtain⟨t,q,h1,h2⟩:=hF.2 ha fun k _=>by
  have:=Eg (fun v=>(pW es x W).idxOf (rW es x W v)) (kl es x O es.length) k;have h3:2 ^ (kl es x O es.length).length≤2 ^ 63:=Nat.pow_le_pow_right (by decide) hkl
  unfold mW;omega
 refine⟨t,q,h1,?_⟩;have e1:Me (pW es x W).length 0 (mW es x W O) 1=_:=Ld (fun v=>(pW es x W).idxOf (rW es x W v)) (kl es x O es.length) (pW es x W).length fun e _=>⟨BI,BI⟩;have e2:=By (es:=es) (V:=fun v=>v ∈ dU x 64) (s:=(pW es x W).length) (ψ:=fun v=>(pW es x W).idxOf (rW es x W v)) (fun v _=>BI) (kx es x O) (rW es x W) (fun i=>i) (Rho.id _) (fun v w hv hw=>Nj h hv hw) (fun k hk=>Dk h (NT hk));rw[Qv,G0] at e2;rw[e1,←e2] at h2;exact h2
end
theorem Ps (m:Nat):Pf (m+20) false []=some (0,0,0,0,0,0,0,0,0):=by rfl
theorem Qy (m c:Nat):Pf (m+20) false [c]=some (c,0,0,0,0,0,0,0,0):=by rfl
theorem M8 {n c:Nat} (hn:20≤n) (hc:c<18446744073709551616) {t:Bool} {q:List Nat} (h:Lg (c:Int) t q):Pf n t q=some (c,0,0,0,0,0,0,0,0):=by
 obtain⟨m,rfl⟩:∃m,n=m+20:=⟨n-20,by omega⟩
 have ht:=h.Hs;rw[decide_eq_false (by omega)] at ht
 subst ht
 by_cases h0:c=0
 ·subst h0;rw[(h.RD).2 rfl];exact Ps m
 ·have:=h.Px (by omega) (by simpa using hc)
  rw[this];exact Qy m c
theorem I8 {n:Nat} (hn:20≤n) {c:Nat} (hc:c<4294967296):A3 n (c:Int)=some (false,if c=0 then[] else[(c:Int)]):=by
 obtain⟨m,rfl⟩:∃m,n=m+20:=⟨n-20,by omega⟩
 have e1:ui .u64 (c:Int)=c:=by
  show((c:Int)%((2 ^ 64:Nat):Int)).toNat=c
  omega
 have e2:uw .u64 (c/4294967296)=0:=by rw[Nat.div_eq_of_lt hc]; rfl
 unfold A3;rw[aJ (by omega),ah,e1,e2,Nat.mod_eq_of_lt hc,decide_eq_false (by omega)]
 rw[aE (by omega) (by omega)]
 by_cases h0:c=0
 ·subst h0; rfl
 ·rw[if_neg h0];unfold om rK;have st1:fx (m+20) [(c:Int),IntKind.wrap .i64 ((0:Nat):Int)] 2=some (.inl 1):=rfl;have st2:fx (m+20) [(c:Int),IntKind.wrap .i64 ((0:Nat):Int)] 1=some (.inr 1):=by
   unfold fx;rw[aL (by decide)]
   show ob (ob (some (decide ((c:Int)=0))) fun v64=>some v64) _=_
   rw[decide_eq_false (by omega)]; rfl
  have e3:(([(c:Int),IntKind.wrap .i64 ((0:Nat):Int)].length:Nat):Int)=2:=rfl;rw[e3,aA st1,aN st2]; rfl
theorem KK (m:Nat):Kh (m+20) false []=some (0,0,0,0,0,0,0,0,0):=by rfl
theorem Lx {n:Nat} (hn:20≤n) {c:Nat} (hc:c<4294967296):Kh n false [(c:Int)]=some (c,0,0,0,0,0,0,0,0):=by
 obtain⟨m,rfl⟩:∃m,n=m+20:=⟨n-20,by omega⟩
 have e0:ui .u64 (c:Int)=c:=by
  show((c:Int)%((2 ^ 64:Nat):Int)).toNat=c
  omega
 have e1:uw .u64 (0+gz .u64 (ui .u64 (c:Int)) (IntKind.wrap .i64 (32*(Int.tmod 0 2))).toNat)=c:=by
  have e2:(IntKind.wrap .i64 (32*(Int.tmod 0 2))).toNat=0:=rfl;rw[e2,e0,nT (by omega),Nat.pow_zero,Nat.mul_one,Nat.zero_add,jX (a:=c) (by omega),jX (a:=c) (by omega)]
 have s0:jt (m+20) [(c:Int)] (([0,0,0,0,0,0,0,0]:List (Nat)),0)=some (.inl ([c,0,0,0,0,0,0,0],1)):=by
  show(some (Sum.inl (([0,0,0,0,0,0,0,0]:List Nat).set 0 (uw .u64 (0+gz .u64 (ui .u64 (c:Int)) (IntKind.wrap .i64 (32*(Int.tmod 0 2))).toNat)),(1:Int))):Option ((List Nat × Int) ⊕ List Nat))=_
  rw[e1]; rfl
 have s1:jt (m+20) [(c:Int)] (([c,0,0,0,0,0,0,0]:List (Nat)),1)=some (.inr [c,0,0,0,0,0,0,0]):=rfl
 show(ob (bE (jt (m+20) [(c:Int)]) (m+20) (([0,0,0,0,0,0,0,0]:List (Nat)),0)) fun l1=>ob (Mm l1) fun(x3,x4,x5,x6,x7,x8,x9,x10)=>some (x3,x4,x5,x6,x7,x8,x9,x10,(0:Int)))=_
 rw[aA s0,aN s1]; rfl
theorem N4 {n:Nat} (hn:20≤n) {c:Nat} (hc:c<4294967296):xY n (c:Int)=some (c,0,0,0,0,0,0,0):=by
 unfold xY;rw[I8 hn hc,ah]
 by_cases h0:c=0
 ·subst h0;obtain⟨m,rfl⟩:∃m,n=m+20:=⟨n-20,by omega⟩
  rw[if_pos rfl]
  dsimp only
  rw[KK]; rfl
 ·rw[if_neg h0]
  dsimp only
  rw[Lx hn hc]; rfl
theorem Nt (n:Nat) (N:Int) (es:List (Int × Int)) (x:Nat) (hx:x<2 ^ 64) (hl:es.length<4611686018427387904) (hk:es.length<n) (hn:2<n):N6 n N es x=some (Fj N es x):=by
 unfold N6 Fj;rw[C8 n N es hn hl hk,ah]
 by_cases hok:kB N es=true
 ·obtain⟨M,rfl,hO⟩:=gH hok;simp only[DV,hok,if_true,decide_true,Bool.not_true,bu]
  by_cases h0:x=0
  ·simp[h0,br,ob]
  ·rw[aJ h0,xF n x hx,ah,ah]
   by_cases h2:2 ^ M≤x
   ·have:M<bl x:=lH.2 h2;rw[decide_eq_true (show((M:Nat):Int)<((bl x:Nat):Int) by omega),bm,if_pos (.inr (by simpa using h2))]
   ·have:¬M<bl x:=fun g=>h2 (lH.1 g);rw[decide_eq_false (show ¬((M:Nat):Int)<((bl x:Nat):Int) by omega),bu,if_neg (by simp[h0]; simpa using h2)]
 ·rw[Bool.not_eq_true] at hok;simp[DV,hok,br]
def gO (es:List (Int × Int)) (x:Nat):List (List Int):=gw es (il es x 0 es.length) (rk x 64-1) fun x=>x
theorem Gi {M:Nat} {es:List (Int × Int)} {x:Nat} (hok:kB (M:Int) es=true) (hO:Okay M es) {n:Nat} (hx:x<2 ^ 64) (h0:x≠0) (hn:300<n) (hr:rk x 64≤9) :
  Ky n (M:Int) es x=some (gO es x)∧(gO es x).length≤1073741824:=by
 have hB:∀i d,d≤8→cb (inc es x i) d≤1073741824:=fun i d hd=>oV (fF hok hO hr i) hd;have h1:=mb hx h0;have hg:=KN hO hx h0 n hn hB hr (rk x 64-1) [] n (by simp; omega) (fun y hy=>by cases hy) (by omega)
 have e1:(gw es (il es x (xZ []) (es.length-xZ [])) (rk x 64-1) (rep (([]:List Int).map (eg es)))).map (([]:List Int)++·)=gO es x:=by
  have:(fun l:List Int=>([]:List Int)++l)=id:=by funext l; rfl
  rw[this,List.map_id]; rfl
 rw[e1] at hg;refine⟨?_,?_⟩
 ·unfold Ky JM;rw[hg]; rfl
 ·refine Nat.le_trans (u6 es _ _ _) ?_;rw[m7 es x es.length 0 (by omega)]
  exact hB 0 _ (by omega)
def ul (v:Nat):List Nat:=if v=0 then[] else[v]
theorem Bz {v:Nat} (h:v≠0):ul v = [v]:=if_neg h
theorem Qj {v:Nat} (h:v<18446744073709551616):Lg (v:Int) false (ul v):=by
 by_cases h0:v=0
 ·subst h0; exact Lg.zero
 ·rw[Bz h0]; exact Lg.small h0 h false
def Kr (r r':Nat→Nat):Prop:=∀v w,r v=r w↔r' v=r' w
theorem Kr.join {r r':Nat→Nat} (h:Kr r r') (e:Nat × Nat):Kr (bN r e) (bN r' e):=by
 intro v w
 by_cases h1:r e.1=r e.2
 ·rw[nG h1,nG ((h _ _).1 h1)]; exact h v w
 ·rw[o9 h1,o9 (fun g=>h1 ((h _ _).2 g)),h v w,h v e.1,h v e.2,h w e.1,h w e.2]
theorem rT (es:List (Int × Int)):∀(L:List Int) (d:Nat) (r:Nat→Nat),∀t ∈ gw es L d r,∀k ∈ t,k ∈ L
 | L,0,r,t,ht,k,hk=>by
  have:gw es L 0 r = [[]]:=by cases L<;>rfl
  rw[this,List.mem_singleton] at ht;rw[ht] at hk; cases hk
 | [],d+1,_,t,ht,_,_=>by cases ht
 | m::L,d+1,r,t,ht,k,hk=>by
  simp only[gw] at ht;rcases List.mem_append.1 ht with ht|ht
  ·split at ht
   ·cases ht
   ·obtain⟨t',h1,rfl⟩:=List.mem_map.1 ht;rcases List.mem_cons.1 hk with rfl|hk
    ·exact List.mem_cons_self
    ·exact List.mem_cons_of_mem _ (rT es L d _ t' h1 k hk)
  ·exact List.mem_cons_of_mem _ (rT es L (d+1) _ t ht k hk)
def hv (k:Int) (T:List (List Int)):Nat:=(T.filter fun t=>t.contains k).length
theorem qN (es:List (Int × Int)) (k:Int) (L:List Int) (d:Nat) {r:Nat→Nat} (h:r (eg es k).1=r (eg es k).2):gw es (k::L) d r=gw es L d r:=by
 cases d with
 | zero=>cases L<;>rfl
 | succ d=>simp only[gw]; rw[if_pos h,List.nil_append]
def gt (W:List (Int × Bool)) (k:Nat):Bool:=(bY W (k:Int)).getD false
structure Dcd (es:List (Int × Int)) (x:Nat) (W O:List (Int × Bool)) (i:Nat):Prop where
 lt:∀k,k<i→eW es x (k:Int)=true→gt W k = !gt O k
 ge:∀k,i≤k→gt W k=false∧gt O k=false
def hd (es:List (Int × Int)) (x:Nat) (W:List (Int × Bool)) (i:Nat):List Int:=((List.range i).filter (wi es x W)).map fun(k:Nat)=>(k:Int)
section
variable {N : Nat} {es : List (Int × Int)} {x i : Nat} {W O : List (Int × Bool)}
theorem ra (es:List (Int × Int)) (x:Nat) (W:List (Int × Bool)) (i:Nat):hd es x W (i+1)=if wi es x W i then hd es x W i++[(i:Int)] else hd es x W i:=by
 unfold hd;rw[List.range_succ,List.filter_append,List.filter_cons]
 split<;>simp
theorem zo {W':List (Int × Bool)} (h:∀k,k<i→eW es x (k:Int)=true→gt W k=gt W' k):hd es x W i=hd es x W' i:=by
 unfold hd
 congr 1
 refine List.filter_congr fun k hk=>?_;unfold wi;cases hin:eW es x (k:Int) with
 | false=>rfl
 | true =>
  have:=h k (List.mem_range.1 hk) hin;unfold gt at this;rw[this]
theorem qk (hi:i≤es.length):List.range es.length=List.range i++List.range' i (es.length-i):=by
 rw[List.range_eq_range',List.range_eq_range'];have:=List.range'_append_1 (s:=0) (m:=i) (n:=es.length-i);rw[Nat.zero_add,show i+(es.length-i)=es.length by omega] at this
 exact this.symm
theorem Dcd.Sz (h:Dcd es x W O i) (hi:i≤es.length):wl es x W 0 es.length=(hd es x W i).map (eg es):=by
 unfold wl hd;rw[←List.range_eq_range',qk hi,List.filter_append,List.map_map,List.map_append];have:(List.range' i (es.length-i)).filter (wi es x W) = []:=List.filter_eq_nil_iff.2 fun k hk=>by
  have h1:=(List.mem_range'_1.1 hk).1;have:=(h.ge k h1).1;unfold gt at this;unfold wi;rw[this,Bool.and_false]; simp
 rw[this,List.map_nil,List.append_nil]; rfl
theorem Dcd.SA (h:Dcd es x W O i) (hi:i≤es.length):kx es x O=hd es x W i++il es x i (es.length-i):=by
 unfold kx hd il;rw[qk hi,List.filter_append,List.map_append]
 congr 2
 ·refine List.filter_congr fun k hk=>?_;unfold ki wi;cases hin:eW es x (k:Int) with
  | false=>rfl
  | true =>
   have:=h.lt k (List.mem_range.1 hk) hin;unfold gt at this;rw[this]
 ·refine List.filter_congr fun k hk=>?_;have h1:=(List.mem_range'_1.1 hk).1;have:=(h.ge k h1).2;unfold gt at this;unfold ki;rw[this]; simp
theorem zn (es:List (Int × Int)) (L:List Int) (d:Nat) {r:Nat→Nat}:∀T:List Int,(∀k ∈ T,r (eg es k).1=r (eg es k).2)→gw es (T++L) d r=gw es L d r
 | [],_=>rfl
 | k::T,h=>by rw[List.cons_append,qN es k _ d (h k List.mem_cons_self),zn es L d T fun k hk=>h k (List.mem_cons_of_mem _ hk)]
def rh (es:List (Int × Int)) (x:Nat) (W:List (Int × Bool)) (i:Nat):Nat→Nat:=rep ((hd es x W i).map (eg es))
theorem Ll {k:Int} (hk:k ∈ hd es x W i):rh es x W i (eg es k).1=rh es x W i (eg es k).2:=by
 unfold rh;rw[xh];exact Cn.one (.inl (List.mem_map.2 ⟨k,hk,rfl⟩))
theorem O7 (es:List (Int × Int)) (x:Nat) (O:List (Int × Bool)):(kx es x O).length≤inc es x 0:=by
 have h1:=m7 es x es.length 0 (by omega)
 rw[←h1];unfold kx il;rw[List.length_map,List.length_map,←List.range_eq_range',←List.countP_eq_length_filter,←List.countP_eq_length_filter];refine List.countP_mono_left fun k _ hk=>?_;unfold ki at hk;rw[Bool.and_eq_true] at hk;exact hk.1
theorem Da (h:Okay N es) {n:Nat} (hx:x<2 ^ 64) (h0:0<x) (hn:300<n) (x1:Int) (hinc:inc es x 0≤36) (hd':Dcd es x W O i) (hi:i≤es.length) :
  (aY (fun x=>x) ((hd es x W i).map (eg es))=false→Bn n x1 es x W O=some (false,[])) ∧
  (aY (fun x=>x) ((hd es x W i).map (eg es))=true→∃t q,Bn n x1 es x W O=some (t,q)∧Lg ((gw es (il es x i (es.length-i)) (rk x 64-1-(hd es x W i).length) (rh es x W i)).length:Int) t q∧(hd es x W i).length+1≤rk x 64):=by
 have hc:=O5 (W:=W) (O:=O) h hx h0 hn x1 (by have:=O7 es x O; omega)
 have hw:=hd'.Sz hi;rw[hw] at hc;refine⟨hc.1,fun ha=>?_⟩;obtain⟨t,q,h1,h2⟩:=hc.2 ha;have hp:=Oa (W:=W) h hx h0 (by rw[hw]; exact ha)
 rw[hw,List.length_map] at hp;have hr:rW es x W=rh es x W i:=by unfold rW rh; rw[hw]; rfl
 rw[hd'.SA hi,hr,zn es _ _ _ fun k hk=>Ll hk,show(pW es x W).length=rk x 64-1-(hd es x W i).length by omega] at h2
 exact⟨t,q,h1,h2,by omega⟩
theorem j9 (e:Nat × Nat):∀(T:List (Nat × Nat)) (r:Nat→Nat),aY r (T++[e])=(aY r T && !(T.foldl bN r e.1 == T.foldl bN r e.2))
 | [],r=>by simp[aY]
 | d::T,r=>by
  rw[List.cons_append];simp only[aY,List.foldl_cons];rw[j9 e T,Bool.and_assoc]
theorem pn (W:List (Int × Bool)) (i k:Nat) (b:Bool):gt (cH W (i:Int) b) k=if k=i then b else gt W k:=by
 unfold gt;rw[Hk]
 by_cases h:k=i
 ·rw[if_pos h,if_pos (by omega)]
 ·rw[if_neg h,if_neg (by omega)]
theorem Dcd.RP (h:Dcd es x W O i):Dcd es x (cH W (i:Int) true) O (i+1):=by
 refine⟨fun k hk hin=>?_,fun k hk=>?_⟩
 ·rw[pn]
  by_cases hki:k=i
  ·subst hki;rw[if_pos rfl,(h.ge k (Nat.le_refl _)).2]; rfl
  ·rw[if_neg hki]; exact h.lt k (by omega) hin
 ·rw[pn,if_neg (by omega)]; exact h.ge k (by omega)
theorem Dcd.left (h:Dcd es x W O i) {W':List (Int × Bool)} (hW:∀k,gt W' k=gt W k):Dcd es x W' (cH O (i:Int) true) (i+1):=by
 refine⟨fun k hk hin=>?_,fun k hk=>?_⟩
 ·rw[pn,hW]
  by_cases hki:k=i
  ·subst hki;rw[if_pos rfl,(h.ge k (Nat.le_refl _)).1]; rfl
  ·rw[if_neg hki]; exact h.lt k (by omega) hin
 ·rw[pn,if_neg (by omega),hW]; exact h.ge k (by omega)
theorem Dcd.skip (h:Dcd es x W O i) (hin:eW es x (i:Int)=false):Dcd es x W O (i+1):=by
 refine⟨fun k hk hk2=>?_,fun k hk=>h.ge k (by omega)⟩
 by_cases hki:k=i
 ·subst hki; rw[hin] at hk2; cases hk2
 ·exact h.lt k (by omega) hk2
theorem wT (h:Dcd es x W O i) (hin:eW es x (i:Int)=true):hd es x (cH W (i:Int) true) (i+1)=hd es x W i++[(i:Int)]:=by
 rw[ra];have hw:wi es x (cH W (i:Int) true) i=true:=by
  have:=pn W i i true;rw[if_pos rfl] at this;unfold gt at this;unfold wi;rw[hin,this]; rfl
 rw[if_pos hw,zo (W':=W) fun k hk _=>by rw[pn,if_neg (by omega)]]
theorem Cm (h:Dcd es x W O i) {W':List (Int × Bool)} (hW:∀k,gt W' k=gt W k):hd es x W' (i+1)=hd es x W i:=by
 rw[ra];have hw:wi es x W' i=false:=by
  have:=hW i;rw[(h.ge i (Nat.le_refl _)).1] at this;unfold gt at this;unfold wi;rw[this,Bool.and_false]
 rw[hw,zo (W':=W) fun k _ _=>hW k]; rfl
theorem yo (h:Okay N es) {n:Nat} (hx:x<2 ^ 64) (h0:0<x) (hn:300<n) (x1:Int) (hinc:inc es x 0≤36) (hd':Dcd es x W O i) (hi:i<es.length) (hin:eW es x (i:Int)=true) (ha:aY (fun x=>x) ((hd es x W i).map (eg es))=true) :
  ∃(t:Bool) (q:List Nat) (c:Nat),Bn n x1 es x (cH W (i:Int) true) O=some (t,q)∧Lg (c:Int) t q ∧
   (rh es x W i (eg es i).1=rh es x W i (eg es i).2→c=0) ∧
   (rh es x W i (eg es i).1≠rh es x W i (eg es i).2→aY (fun x=>x) ((hd es x W i++[(i:Int)]).map (eg es))=true∧(hd es x W i).length+2≤rk x 64 ∧
    c=(gw es (il es x (i+1) (es.length-(i+1))) (rk x 64-1-(hd es x W i).length-1) (bN (rh es x W i) (eg es i))).length):=by
 have hc:=Da h hx h0 hn x1 hinc hd'.RP (show i+1≤es.length from hi)
 rw[wT hd' hin] at hc;have hr:rh es x (cH W (i:Int) true) (i+1)=bN (rh es x W i) (eg es (i:Int)):=by
  unfold rh;rw[wT hd' hin,List.map_append,List.map_singleton,mq]
 have hj:aY (fun x=>x) ((hd es x W i++[(i:Int)]).map (eg es)) = !(rh es x W i (eg es i).1 == rh es x W i (eg es i).2):=by
  rw[List.map_append,List.map_singleton,j9,ha,Bool.true_and]; rfl
 by_cases hab:rh es x W i (eg es i).1=rh es x W i (eg es i).2
 ·have hf:aY (fun x=>x) ((hd es x W i++[(i:Int)]).map (eg es))=false:=by rw[hj,hab]; simp
  exact⟨false,[],0,hc.1 hf,Lg.zero,fun _=>rfl,fun e=>absurd hab e⟩
 ·have ht:aY (fun x=>x) ((hd es x W i++[(i:Int)]).map (eg es))=true:=by rw[hj]; simpa using hab
  obtain⟨t,q,h1,h2,h3⟩:=hc.2 ht;rw[hr] at h2;rw[List.length_append,List.length_singleton] at h2 h3;exact⟨t,q,_,h1,h2,fun e=>absurd e hab,fun _=>⟨ht,by omega,by rw[show rk x 64-1-((hd es x W i).length+1)=rk x 64-1-(hd es x W i).length-1 by omega]⟩⟩
end
theorem rR {β:Type} {k:Int}:∀{xs:List (Int × β)} {i:Nat},bW k xs i=none→∀(v:β),bW k (xs++[(k,v)]) i=some (i+xs.length,v)
 | [],i,_,v=>by simp[bW]
 | e::xs,i,h,v=>by
  unfold bW at h
  by_cases h1:k=e.1
  ·rw[if_pos h1] at h; cases h
  ·rw[if_neg h1] at h;rw[List.cons_append];unfold bW;rw[if_neg h1,rR h v,List.length_cons]
   congr 2
   omega
theorem uC {β:Type} {k:Int} {xs:List (Int × β)} (h:bY xs k=none) (v:β):vQ (cH xs k v) k=xs:=by
 have h1:bW k xs 0=none:=by
  unfold bY at h;cases hm:bW k xs 0 with
  | none=>rfl
  | some p=>rw[hm] at h; cases h
 have h2:cH xs k v=xs++[(k,v)]:=by unfold cH; rw[h1]
 unfold vQ;rw[h2,rR h1 v]
 dsimp only
 rw[Nat.zero_add,List.eraseIdx_append_of_length_le (Nat.le_refl _),Nat.sub_self];simp
theorem Hy {n:Nat} {a b:Int} {s t:Bool} {l k:List Nat} (h:Lg a s l) (h':Lg b t k) (hb:l.length<1000000) (hb':k.length<1000000) (hn:l.length+k.length+1<n) :
  ∃r,Pd n s l t k=some r∧(r<0↔a<b):=by
 obtain⟨u,m,m1,m2⟩:=B0 (n:=n) h h' hb hb' hn;obtain⟨r,r1,r2,r3⟩:=AV (n:=n) m2;exact⟨r,by unfold Pd; rw[m1,ah]; dsimp only; rw[r1,ah],by rw[r2]; omega⟩
section
variable {N : Nat} {es : List (Int × Int)} {x : Nat}
def G (es:List (Int × Int)) (x:Nat) (W:List (Int × Bool)) (i:Nat):List (List Int):=gw es (il es x i (es.length-i)) (rk x 64-1-(hd es x W i).length) (rh es x W i)
structure Uv (es:List (Int × Int)) (x:Nat) (z:Int) (tgt:List Int) (i:Nat) (s:Bool) (l:List Nat) (W O:List (Int × Bool)) (tr:List Int) (zi:Int):Prop where
 dcd:Dcd es x W O i
 fresh:∀k:Nat,i≤k→bY W (k:Int)=none
 join:aY (fun x=>x) ((hd es x W i).map (eg es))=true
 tr:tr=hd es x W i
 lg:Lg zi s l
 lo:0≤zi
 hi:zi≤z
 len:(hd es x W i).length+1≤rk x 64
 at_:∃t,(G es x W i)[zi.toNat]? = some t∧hd es x W i++t=tgt
theorem QH (x:Nat):rk x 64≤64:=nQ x 64
theorem Ns (h:Okay N es) {n:Nat} (hx:x<2 ^ 64) (h0:0<x) (hn:300<n) (x1:Int) (hinc:inc es x 0≤36) (hB:∀i d,d≤8→cb (inc es x i) d≤1073741824) (hr9:rk x 64≤9) {z:Int} (hz:z<1000000000000) {tgt:List Int} {s:Bool} {l:List Nat} (hg:Lg z s l) (hz0:0≤z)
  (hat:(gO es x)[z.toNat]? = some tgt) :
  ∃s' l' W O,bE (ql n es x x1) n (0,s,l,([]:List (Int × Bool)),([]:List (Int × Bool)),([]:List Int))=some (s',l',W,O,tgt):=by
 have hlen:=h.len;have hrk:=QH x;have:=fH (body:=ql n es x x1) (R:=fun r=>r.2.2.2.2=tgt) (fun j st=>∃i:Nat,∃zi:Int,st.1=(i:Int)∧i+j=es.length∧Uv es x z tgt i st.2.1 st.2.2.1 st.2.2.2.1 st.2.2.2.2.1 st.2.2.2.2.2 zi) (fun j st hI=>by
  obtain⟨v,s,l,W,O,tr⟩:=st;obtain⟨i,zi,e1,e2,u⟩:=hI;simp only at e1 u;subst e1;have utr:=u.tr;subst utr
  by_cases hi:i<es.length
  ·obtain⟨a,b,c1,c2,c3,c4,_,c5⟩:=gm h (k:=(i:Int)) ⟨by omega,by omega⟩
   rw[Int.toNat_natCast] at c1;have ha:a<64:=by omega
   have hinn:eW es x (i:Int)=(x.testBit a && x.testBit b):=by
    simp only[eW,c2];rw[decide_eq_true ⟨by omega,by omega⟩,Bool.true_and]
   have w1:IntKind.wrap .i64 ((i:Int)+1)=((i+1:Nat):Int):=aD (by omega)
   have hj:es.length-i=(es.length-(i+1))+1:=by omega
   obtain⟨t,t1,t2⟩:=u.at_;unfold G at t1;rw[hj,iT] at t1;cases hin:eW es x (i:Int) with
   | false =>
    refine .inl ⟨(((i+1:Nat):Int),s,l,W,O,hd es x W i),?_,j-1,by omega,i+1,zi,rfl,by omega,?_⟩
    ·unfold ql
     dsimp only
     rw[aL (by omega),al hi,az,Int.toNat_natCast,c1,ah]
     dsimp only
     rw[jY n x a b hx ha c4,ah,←hinn,hin,bu,ah]
     dsimp only
     rw[w1]
    ·have hd1:hd es x W (i+1)=hd es x W i:=by
      rw[ra]; unfold wi; rw[hin]; rfl
     have hr1:rh es x W (i+1)=rh es x W i:=by unfold rh; rw[hd1]
     rw[hin] at t1;exact { dcd:=u.dcd.skip hin,fresh:=fun k hk=>u.fresh k (by omega),join:=by rw[hd1]; exact u.join,tr:=hd1.symm,lg:=u.lg,lo:=u.lo,hi:=u.hi,len:=by rw[hd1]; exact u.len,at_:=⟨t,by unfold G; rw[hd1,hr1]; exact t1,by rw[hd1]; exact t2⟩}
   | true =>
    rw[hin,if_pos rfl] at t1;obtain⟨t',q',c,f1,f2,f3,f4⟩:=yo h hx h0 hn x1 hinc u.dcd hi hin u.join;have hcb:(c:Int).natAbs<wp 1:=by
     by_cases hab:rh es x W i (eg es i).1=rh es x W i (eg es i).2
     ·rw[f3 hab]; decide
     ·obtain⟨_,_,hc⟩:=f4 hab;have h1:=u6 es (il es x (i+1) (es.length-(i+1))) (rk x 64-1-(hd es x W i).length-1) (bN (rh es x W i) (eg es i));rw[m7 es x _ (i+1) (by omega)] at h1
      have h2:=hB (i+1) (rk x 64-1-(hd es x W i).length-1) (by omega)
      show _<18446744073709551616
      omega
    have l1:l.length≤1:=u.lg.len (by have:=u.lo; have:=u.hi; show _<18446744073709551616; omega)
    have l2:q'.length≤1:=f2.len hcb;obtain⟨cm,m1,m2⟩:=Hy (n:=n) u.lg f2 (by omega) (by omega) (by omega)
    obtain⟨s2,l2',d1,d2⟩:=B0 (n:=n) u.lg f2 (by omega) (by omega) (by omega)
    have hdel:vQ (cH W (i:Int) true) (i:Int)=W:=uC (u.fresh i (Nat.le_refl _)) true;have hd2:hd es x W (i+1)=hd es x W i:=Cm u.dcd fun _=>rfl;have hr2:rh es x W (i+1)=rh es x W i:=by unfold rh; rw[hd2]
    have st:ql n es x x1 ((i:Int),s,l,W,O,hd es x W i)=some (.inl (if cm<0 then(((i+1:Nat):Int),s,l,cH W (i:Int) true,O,hd es x W i++[(i:Int)]) else(((i+1:Nat):Int),s2,l2',W,cH O (i:Int) true,hd es x W i))):=by
     unfold ql
     dsimp only
     rw[aL (by omega),al hi,az,Int.toNat_natCast,c1,ah]
     dsimp only
     rw[jY n x a b hx ha c4,ah,←hinn,hin,bm,f1,ah]
     dsimp only
     rw[m1,ah]
     by_cases hcm:cm<0
     ·rw[aL hcm,cq (by rw[List.length_append,List.length_singleton]; have:=u.len; omega),az,ah]
      dsimp only
      rw[ah]
      dsimp only
      rw[w1,if_pos hcm]
     ·rw[aJ hcm,d1,ah]
      dsimp only
      rw[ah]
      dsimp only
      rw[ah]
      dsimp only
      rw[w1,if_neg hcm,hdel]
    refine .inl ⟨_,st,j-1,by omega,i+1,if cm<0 then zi else zi-(c:Int),by split<;>rfl,by omega,?_⟩
    have left_ok:∀(t1':(gw es (il es x (i+1) (es.length-(i+1))) (rk x 64-1-(hd es x W i).length) (rh es x W i))[(zi-(c:Int)).toNat]? = some t),¬cm<0→Uv es x z tgt (i+1) s2 l2' W (cH O (i:Int) true) (hd es x W i) (zi-(c:Int)):=fun t1' hcm =>
     { dcd:=u.dcd.left fun _=>rfl,fresh:=fun k hk=>u.fresh k (by omega),join:=by rw[hd2]; exact u.join,tr:=hd2.symm,lg:=d2,lo:=by have h3:¬zi<(c:Int):=fun g=>hcm (m2.2 g); omega,hi:=by have:=u.hi; omega,len:=by rw[hd2]; exact u.len,at_:=⟨t,by unfold G; rw[hd2,hr2]; exact t1',by rw[hd2]; exact t2⟩}
    have hlo:=u.lo;have hul:=u.len
    by_cases hab:rh es x W i (eg es i).1=rh es x W i (eg es i).2
    ·have hc0:=f3 hab;have hcm:¬cm<0:=fun g=>by have:=m2.1 g; omega
     rw[if_neg hcm,if_neg hcm];rw[qN es (i:Int) _ _ hab] at t1;exact left_ok (by rw[hc0]; simpa using t1) hcm
    ·obtain⟨j1,j2,j3⟩:=f4 hab;obtain⟨D,hD⟩:∃D,rk x 64-1-(hd es x W i).length=D+1:=⟨rk x 64-1-(hd es x W i).length-1,by omega⟩
     rw[hD,Nat.add_sub_cancel] at j3;rw[hD] at t1;simp only[gw] at t1;rw[if_neg hab] at t1
     by_cases hcm:cm<0
     ·have hzc:=m2.1 hcm;rw[if_pos hcm,if_pos hcm];rw[List.getElem?_append_left (by rw[List.length_map,←j3]; omega),List.getElem?_map] at t1
      obtain⟨t3,t4,t5⟩:=Option.map_eq_some_iff.1 t1;have hd3:hd es x (cH W (i:Int) true) (i+1)=hd es x W i++[(i:Int)]:=wT u.dcd hin;have hr3:rh es x (cH W (i:Int) true) (i+1)=bN (rh es x W i) (eg es (i:Int)):=by
       unfold rh;rw[hd3,List.map_append,List.map_singleton,mq]
      refine { dcd:=u.dcd.RP,fresh:=fun k hk=>by rw[lU,if_neg (by omega)]; exact u.fresh k (by omega),join:=by rw[hd3]; exact j1,tr:=hd3.symm,lg:=u.lg,lo:=u.lo,hi:=u.hi,len:=by rw[hd3,List.length_append,List.length_singleton]; omega,at_:=⟨t3,?_,?_⟩}
      ·unfold G;rw[hd3,hr3,List.length_append,List.length_singleton,show rk x 64-1-((hd es x W i).length+1)=D by omega]
       exact t4
      ·rw[hd3,←t2,←t5]; simp
     ·have hzc:¬zi<(c:Int):=fun g=>hcm (m2.2 g);rw[if_neg hcm,if_neg hcm];rw[List.getElem?_append_right (by rw[List.length_map,←j3]; omega),List.length_map,←j3,←hD] at t1
      exact left_ok (by rw[show(zi-(c:Int)).toNat=zi.toNat-c by omega]; exact t1) hcm
  ·refine .inr ⟨(s,l,W,O,hd es x W i),?_,?_⟩
   ·unfold ql
    dsimp only
    rw[aJ (by omega)]
   ·obtain⟨t,t1,t2⟩:=u.at_;unfold G at t1;have hj:es.length-i=0:=by omega
    have h00:il es x i 0 = []:=rfl;rw[hj,h00] at t1
    show hd es x W i=tgt
    rw[←t2];cases hD:rk x 64-1-(hd es x W i).length with
    | succ D=>rw[hD] at t1; cases t1
    | zero =>
     rw[hD] at t1;have h01:gw es [] 0 (rh es x W i) = [[]]:=rfl;rw[h01] at t1;have:=List.mem_of_getElem? t1;rw[List.mem_singleton.1 this,List.append_nil]) es.length (0,s,l,[],[],[]) n ⟨0,z,rfl,by omega,
  { dcd:=⟨fun k hk=>absurd hk (Nat.not_lt_zero _),fun k _=>⟨rfl,rfl⟩⟩,fresh:=fun _ _=>rfl,join:=rfl,tr:=rfl,lg:=hg,lo:=hz0,hi:=Int.le_refl _,len:=by have:=mb hx (show x≠0 by omega); show 0+1≤_; omega,at_:=⟨tgt,hat,rfl⟩}⟩ (by omega)
 obtain⟨⟨s',l',W,O,tr⟩,h1,h2⟩:=this;simp only at h2;subst h2;exact⟨s',l',W,O,h1⟩
end
theorem KV {N:Int} {es:List (Int × Int)} {x:Nat} (hc:Fj N es x=0):kB N es=true∧x≠0:=by
 unfold Fj at hc
 by_cases h:kB N es=true
 ·refine⟨h,fun e=>?_⟩;rw[if_pos h,if_pos (.inl e)] at hc;cases hc
 ·rw[if_neg h] at hc; cases hc
theorem JQ {M:Nat} {es:List (Int × Int)} {x n:Nat} (hok:kB (M:Int) es=true) (hO:Okay M es) (hx:x<2 ^ 64) (h0:x≠0) (hn:300<n) (hr:rk x 64≤9) (x1:Int) :
  ∃t q,Bn n x1 es x [] []=some (t,q)∧Lg ((gO es x).length:Int) t q:=by
 have hinc:=fF hok hO hr 0;have hD:Dcd es x ([]:List (Int × Bool)) [] 0:=⟨fun k hk=>absurd hk (Nat.not_lt_zero _),fun k _=>⟨rfl,rfl⟩⟩;obtain⟨t,q,h1,h2,h3⟩:=(Da hO hx (show 0<x by omega) hn x1 hinc hD (Nat.zero_le _)).2 rfl
 exact⟨t,q,h1,h2⟩
theorem GU {N:Int} {es:List (Int × Int)} {x n x7 x8 x9 x10 x11 x12 x13 x14:Nat} (hx:x<2 ^ 64) (hl:es.length≤200) (hn:300<n) (hr:kB N es=true→rk x 64≤9)
  {z:Int} {s:Bool} {l:List Nat} (hw:JG n x7 x8 x9 x10 x11 x12 x13 x14=some (s,l)) (hg:Lg z s l) (hz:z.natAbs<18446744073709551616) (hi:Fk n x7 x8 x9 x10 x11 x12 x13 x14=some (z,0)) :
  ∃r:List Int × Int,Mo n N es x x7 x8 x9 x10 x11 x12 x13 x14=some (r.1,r.2)∧LK n N es x x7 x8 x9 x10 x11 x12 x13 x14=some (r.1,r.2)∧(r.1 = []∨r.1 ∈ gO es x∧Fj N es x=0):=by
 unfold Mo LK;rw[Nt n N es x hx (by omega) (by omega) (by omega),Hc n N es x hx (by omega) (by omega),ah,ah]
 by_cases hc:Fj N es x=0
 ·rw[decide_eq_true hc,Bool.not_true,bu,bu];obtain⟨hok,h0⟩:=KV hc;obtain⟨M,rfl,hO⟩:=gH hok;have hr:=hr hok;obtain⟨g1,g2⟩:=Gi hok hO hx h0 hn hr;obtain⟨t,q,q1,q2⟩:=JQ hok hO hx h0 hn hr (M:Int);obtain⟨sg,s1,s2,s3⟩:=AV (n:=n) hg;rw[hw,g1,hi,ah,ah,ah]
  dsimp only
  rw[s1,ah]
  by_cases hneg:z<0
  ·refine⟨([],2),?_,?_,.inl rfl⟩
   ·rw[aL (s2.2 hneg)]; rfl
   ·rw[decide_eq_true (show(0:Int)=0 from rfl),Bool.not_true,bu,aL hneg]; rfl
  ·rw[aJ (fun e=>hneg (s2.1 e)),q1,ah]
   dsimp only
   have l1:l.length≤1:=hg.len (by rw[fP,vU]; omega)
   have l2:q.length≤1:=q2.len (by rw[fP,vU]; omega)
   obtain⟨cm,m1,m2⟩:=Hy (n:=n) hg q2 (by omega) (by omega) (by omega)
   rw[m1,ah,ah,decide_eq_true (show(0:Int)=0 from rfl),Bool.not_true,bu,aJ hneg,ah]
   by_cases hbig:((gO es x).length:Int)≤z
   ·refine⟨([],2),?_,?_,.inl rfl⟩
    ·rw[aL (show 0≤cm from Int.not_lt.1 fun g=>by have:=m2.1 g; omega)]
    ·rw[ah,aL hbig]
   ·have hcm:cm<0:=m2.2 (by omega)
    have hlt:z.toNat<(gO es x).length:=by omega
    have hat:(gO es x)[z.toNat]? = some (gO es x)[z.toNat]:=List.getElem?_eq_getElem hlt;obtain⟨s',l',W,O,e1⟩:=Ns hO hx (show 0<x by omega) hn (M:Int) (fF hok hO hr 0) (fun i d hd=>oV (fF hok hO hr i) hd) hr (show z<1000000000000 by omega) hg (by omega) hat
    refine⟨((gO es x)[z.toNat],0),?_,?_,.inr ⟨List.getElem_mem hlt,hc⟩⟩
    ·rw[aJ (by omega)]
     dsimp only
     rw[e1]; rfl
    ·rw[ah,aJ hbig];have hib:bz z (gO es x).length=true:=decide_eq_true ⟨by omega,hlt⟩
     rw[hib,az,hat,ah]
 ·rw[decide_eq_false hc];exact⟨([],Fj N es x),rfl,rfl,.inl rfl⟩
theorem wU (es:List (Int × Int)):∀(L:List Int) (d:Nat) (r:Nat→Nat),∀t ∈ gw es L d r,t.Sublist L
 | L,0,r,t,ht=>by
  have:gw es L 0 r = [[]]:=by cases L<;>rfl
  rw[this,List.mem_singleton] at ht;rw[ht]; exact List.nil_sublist _
 | [],d+1,_,t,ht=>by cases ht
 | m::L,d+1,r,t,ht=>by
  simp only[gw] at ht;rcases List.mem_append.1 ht with ht|ht
  ·split at ht
   ·cases ht
   ·obtain⟨t',h1,rfl⟩:=List.mem_map.1 ht;exact(wU es L d _ t' h1).cons_cons m
  ·exact(wU es L (d+1) _ t ht).cons m
theorem GH (es:List (Int × Int)) (x i j:Nat):(il es x i j).Nodup:=by
 unfold il;refine List.Pairwise.map _ (fun a b h=>?_) (List.Pairwise.filter _ List.nodup_range');intro e;exact h (by omega)
theorem sQ {es:List (Int × Int)} {x:Nat} {t:List Int} (h:t ∈ gO es x):t.length≤es.length:=by
 have:=(wU _ _ _ _ t h).length_le;unfold il at this;rw[List.length_map] at this;have h2:=List.length_filter_le (fun(k:Nat)=>eW es x (k:Int)) (List.range' 0 es.length);rw[List.length_range'] at h2;omega
theorem Br (es:List (Int × Int)):∀(L:List Int) (t:List Int) (d:Nat) (r:Nat→Nat),t.Sublist L→t.length=d→aY r (t.map (eg es))=true→t ∈ gw es L d r
 | [],t,d,r,h,hl,_=>by
  have:=List.sublist_nil.1 h;subst this;subst hl;exact List.mem_singleton.2 rfl
 | k::L,t,0,r,_,hl,_=>by
  rw[List.length_eq_zero_iff] at hl;subst hl;exact List.mem_singleton.2 rfl
 | k::L,t,d+1,r,h,hl,ha=>by
  simp only[gw];refine List.mem_append.2 ?_;cases h with
  | cons _ h=>exact .inr (Br es L t (d+1) r h hl ha)
  | cons_cons _ h =>
   rename_i t;rw[List.map_cons,aY,Bool.and_eq_true] at ha;have hne:r (eg es k).1≠r (eg es k).2:=by simpa using ha.1
   rw[if_neg hne];exact .inl (List.mem_map.2 ⟨t,Br es L t d _ h (by rw[List.length_cons] at hl; omega) ha.2,rfl⟩)
theorem rQ (es:List (Int × Int)):∀(L:List Int) (d:Nat) (r:Nat→Nat),L.Nodup→(gw es L d r).Nodup
 | L,0,r,_=>by cases L<;>simp[gw]
 | [],d+1,r,_=>by simp[gw]
 | k::L,d+1,r,h=>by
  obtain⟨h1,h2⟩:=List.nodup_cons.1 h;simp only[gw];refine List.nodup_append.2 ⟨?_,rQ es L (d+1) r h2,fun a ha b hb e=>?_⟩
  ·split
   ·exact List.nodup_nil
   ·exact List.pairwise_map.2 ((rQ es L d _ h2).imp fun h e=>h (by simpa using e))
  ·split at ha
   ·cases ha
   ·obtain⟨t,_,rfl⟩:=List.mem_map.1 ha;have:=rT es L (d+1) r b hb k (by rw[←e]; exact List.mem_cons_self)
    exact h1 this
theorem EZ (es:List (Int × Int)) (x:Nat):(gO es x).Nodup:=rQ es _ _ _ (GH _ _ _ _)
theorem wq (es:List (Int × Int)) (x:Nat):∀(j i:Nat) (l:List Int),i+j=es.length→l.Pairwise (· < ·)→(∀k ∈ l,eW es x k=true∧(i:Int)≤k)→l.Sublist (il es x i j)
 | 0,i,l,h,hp,hl=>by
  cases l with
  | nil=>exact List.nil_sublist _
  | cons a l =>
   have h1:=hl a List.mem_cons_self;have h2:=(mZ h1.1).1;unfold Vl at h2;omega
 | j+1,i,l,h,hp,hl=>by
  rw[iT];cases l with
  | nil=>exact List.nil_sublist _
  | cons a l =>
   have h1:=hl a List.mem_cons_self;obtain⟨hp1,hp2⟩:=List.pairwise_cons.1 hp
   by_cases ha:a=(i:Int)
   ·subst ha;rw[if_pos h1.1];exact(wq es x j (i+1) l (by omega) hp2 fun k hk=>⟨(hl k (List.mem_cons_of_mem _ hk)).1,by have:=hp1 k hk; omega⟩).cons_cons _
   ·have:=wq es x j (i+1) (a::l) (by omega) hp fun k hk=>⟨(hl k hk).1,by
     have h2:(i:Int)<a:=by omega
     rcases List.mem_cons.1 hk with rfl|hk
     ·omega
     ·have:=hp1 k hk; omega⟩
    split
    ·exact this.cons _
    ·exact this
theorem Au {es:List (Int × Int)} {x:Nat} {l:List Int} (h:Mi es x l=true):l ∈ gO es x:=by
 obtain⟨h1,h2,h3,h4⟩:=K5 h;refine Br es _ l _ _ (wq es x es.length 0 l (by omega) h4 fun k hk=>⟨h1 k hk,(mZ (h1 k hk)).1.1⟩) (by omega) h3
section
variable {N : Nat} {es : List (Int × Int)} {x : Nat}
theorem LC (es:List (Int × Int)) (x i:Nat):il es x 0 (i+1)=if eW es x (i:Int) then il es x 0 i++[(i:Int)] else il es x 0 i:=by
 unfold il;rw[List.range'_1_concat,List.filter_append,List.map_append,Nat.zero_add,List.filter_cons]
 split<;>simp
theorem HS (h:Okay N es) (hx:x<2 ^ 64) {n:Nat} (hn:300<n):bE (uW n es x) n (0,([]:List Int))=some (il es x 0 es.length):=by
 have hlen:=h.len;have:=ju (body:=uW n es x) es.length (fun(s:List Int) (v:Int)=>(v,s)) id (fun i s=>s=il es x 0 i) (fun s i hi hI=>?_) (fun s _=>?_) (n:=n) (s:=[]) rfl (by omega)
 ·obtain⟨s,h1,h2⟩:=this;rw[h1,h2]; rfl
 ·subst hI;obtain⟨a,b,c1,c2,c3,c4,_,c5⟩:=gm h (k:=(i:Int)) ⟨by omega,by omega⟩
  rw[Int.toNat_natCast] at c1;have hinn:eW es x (i:Int)=(x.testBit a && x.testBit b):=by
   simp only[eW,c2];rw[decide_eq_true ⟨by omega,by omega⟩,Bool.true_and]
  refine⟨il es x 0 (i+1),?_,rfl⟩;unfold uW
  dsimp only
  rw[aL (by omega),al hi,az,Int.toNat_natCast,c1,ah]
  dsimp only
  have hle:(il es x 0 i).length≤1000:=by
   unfold il;rw[List.length_map];exact Nat.le_trans (List.length_filter_le _ _) (by rw[List.length_range']; omega)
  rw[jY n x a b hx (by omega) c4,ah,←hinn,LC,aD (by omega)]
  cases eW es x (i:Int) with
  | false=>rfl
  | true =>
   rw[bm,cq (by rw[List.length_append,List.length_singleton]; omega),az,if_pos rfl]; rfl
 ·unfold uW
  dsimp only
  rw[aJ (by omega)]; rfl
structure Uk (es:List (Int × Int)) (x:Nat) (tgt:List Int) (i:Nat) (s:Bool) (l:List Nat) (W O:List (Int × Bool)) (z:Nat):Prop where
 dcd:Dcd es x W O i
 fresh:∀k:Nat,i≤k→bY W (k:Int)=none
 join:aY (fun x=>x) ((hd es x W i).map (eg es))=true
 lg:Lg (z:Int) s l
 len:(hd es x W i).length+1≤rk x 64
 rest:∃t,t ∈ G es x W i∧hd es x W i++t=tgt
 pos:∀(p:Nat) t,(G es x W i)[p]? = some t→(gO es x)[z+p]? = some (hd es x W i++t)
theorem Qi {W:List (Int × Bool)} {i:Nat} {k:Int} (h:k ∈ hd es x W i):k<(i:Int):=by
 obtain⟨m,h1,rfl⟩:=List.mem_map.1 h;have:=List.mem_range.1 (List.mem_filter.1 h1).1;omega
theorem QX {i j:Nat} {k:Int} (h:k ∈ il es x i j):(i:Int)≤k:=by
 obtain⟨m,h1,rfl⟩:=List.mem_map.1 h;have:=(List.mem_range'_1.1 (List.mem_filter.1 h1).1).1;omega
theorem Uk.bound {tgt:List Int} {i z:Nat} {s:Bool} {l:List Nat} {W O:List (Int × Bool)} (u:Uk es x tgt i s l W O z):z<(gO es x).length:=by
 obtain⟨t,h1,_⟩:=u.rest;obtain⟨p,hp⟩:=List.mem_iff_getElem?.1 h1;have:=(List.getElem?_eq_some_iff.1 (u.pos p t hp)).1;omega
theorem HJ (h:Okay N es) {n:Nat} (hx:x<2 ^ 64) (h0:0<x) (hn:300<n) (x1:Int) (hinc:inc es x 0≤36) (hB:∀i d,d≤8→cb (inc es x i) d≤1073741824) (hr9:rk x 64≤9) {tgt:List Int} (htb:tgt.length<300) (LL:List Int) (hLL:LL.length≤36) (hall:(gO es x).length≤1073741824) :
  ∀(d i:Nat),i+d=es.length→∀(j:Nat) (W O:List (Int × Bool)) (s:Bool) (l:List Nat) (z n':Nat),LL.drop j=il es x i d→j≤LL.length→Uk es x tgt i s l W O z→LL.length<n'+j →
   ∃s' l' z',bE (oZ n LL tgt x1 es x) n' (W,O,s,l,(j:Int))=some (s',l')∧Lg ((z':Nat):Int) s' l'∧(gO es x)[z']? = some tgt:=by
 have hlen:=h.len;intro d
 induction d with
 | zero =>
  intro i hi j W O s l z n' hdr hj u hn';obtain⟨n',rfl⟩:∃k,n'=k+1:=⟨n'-1,by omega⟩
  have hjl:LL.length≤j:=List.drop_eq_nil_iff.1 (by rw[hdr]; rfl)
  have e1:oZ n LL tgt x1 es x (W,O,s,l,(j:Int))=some (.inr (s,l)):=by
   unfold oZ
   dsimp only
   rw[aJ (by omega)]
  refine⟨s,l,z,aN e1,u.lg,?_⟩;obtain⟨t,t1,t2⟩:=u.rest;have hG:G es x W i=gw es [] (rk x 64-1-(hd es x W i).length) (rh es x W i):=by
   unfold G;rw[show es.length-i=0 by omega]; rfl
  have hp:=u.pos 0 t;rw[hG] at t1 hp;cases hD:rk x 64-1-(hd es x W i).length with
  | zero =>
   rw[hD] at t1 hp;simp only[gw,List.mem_singleton] at t1;subst t1;rw[←t2];exact hp rfl
  | succ D =>
   rw[hD] at t1;simp only[gw] at t1;cases t1
 | succ d ih =>
  intro i hi j W O s l z n' hdr hj u hn';have hm:es.length-i=d+1:=by omega
  have hm':es.length-(i+1)=d:=by omega
  have hul:=u.len;cases hin:eW es x (i:Int) with
  | false =>
   rw[iT,hin] at hdr;have hd1:hd es x W (i+1)=hd es x W i:=by
    rw[ra]; unfold wi; rw[hin]; rfl
   have hr1:rh es x W (i+1)=rh es x W i:=by unfold rh; rw[hd1]
   have hG:G es x W (i+1)=G es x W i:=by
    unfold G;rw[hd1,hr1,hm,hm',iT,hin]; rfl
   exact ih (i+1) (by omega) j W O s l z n' hdr hj { dcd:=u.dcd.skip hin,fresh:=fun k hk=>u.fresh k (by omega),join:=by rw[hd1]; exact u.join,lg:=u.lg,len:=by rw[hd1]; exact u.len,rest:=by rw[hG,hd1]; exact u.rest,pos:=by rw[hG,hd1]; exact u.pos} hn'
  | true =>
   rw[iT,hin,if_pos rfl] at hdr;have hjl:j<LL.length:=by
    refine Nat.lt_of_not_le fun hge=>?_;rw[List.drop_eq_nil_of_le hge] at hdr;cases hdr
   obtain⟨n',rfl⟩:∃k,n'=k+1:=⟨n'-1,by omega⟩
   have hat:LL[j]? = some (i:Int):=by
    have:=List.head?_drop (l:=LL) (i:=j);rw[hdr] at this;exact this.symm
   have hdr':LL.drop (j+1)=il es x (i+1) d:=by
    rw[←List.tail_drop,hdr]; rfl
   have w1:IntKind.wrap .i64 ((j:Int)+1)=((j+1:Nat):Int):=aD (by omega)
   have hub:=u.bound;have hG:G es x W i=gw es ((i:Int)::il es x (i+1) d) (rk x 64-1-(hd es x W i).length) (rh es x W i):=by
    unfold G;rw[hm,iT,hin,if_pos rfl]
   have l1:l.length≤1:=u.lg.len (by show _<18446744073709551616; omega)
   obtain⟨t,t1,t2⟩:=u.rest;have tp:=u.pos;rw[hG] at t1 tp;have hnot:(i:Int) ∉ hd es x W i:=fun hk=>by have:=Qi hk; omega
   have hnotL:(i:Int) ∉ il es x (i+1) d:=fun hk=>by have:=QX hk; omega
   by_cases hmem:(i:Int) ∈ tgt
   ·
    have ht:(i:Int) ∈ t:=by
     rw[←t2] at hmem;exact(List.mem_append.1 hmem).resolve_left hnot
    obtain⟨u0,l0,d1,d2⟩:=qR (n:=n) u.lg Lg.zero (by omega) (by simp) (by simp; omega)
    rw[Int.add_zero] at d2;have st:oZ n LL tgt x1 es x (W,O,s,l,(j:Int))=some (.inl (cH W (i:Int) true,O,u0,l0,((j+1:Nat):Int))):=by
     unfold oZ
     dsimp only
     rw[aL (by omega),al hjl,az,Int.toNat_natCast,hat,ah,FA n tgt _ (by omega) (by omega),ah,aL hmem,oj (by omega),ah]
     dsimp only
     rw[ah]
     dsimp only
     rw[d1,ah]
     dsimp only
     rw[w1]
    rw[aA st];have hd3:hd es x (cH W (i:Int) true) (i+1)=hd es x W i++[(i:Int)]:=wT u.dcd hin;have hr3:rh es x (cH W (i:Int) true) (i+1)=bN (rh es x W i) (eg es (i:Int)):=by
     unfold rh;rw[hd3,List.map_append,List.map_singleton,mq]
    cases hD:rk x 64-1-(hd es x W i).length with
    | zero =>
     rw[hD] at t1;simp only[gw,List.mem_singleton] at t1;subst t1;cases ht
    | succ D =>
     rw[hD] at t1 tp;simp only[gw] at t1 tp
     by_cases hab:rh es x W i (eg es i).1=rh es x W i (eg es i).2
     ·rw[if_pos hab,List.nil_append] at t1;exact absurd (rT es _ _ _ t t1 _ ht) hnotL
     ·rw[if_neg hab] at t1 tp;have hG3:G es x (cH W (i:Int) true) (i+1)=gw es (il es x (i+1) d) D (bN (rh es x W i) (eg es (i:Int))):=by
       unfold G;rw[hd3,hr3,hm',List.length_append,List.length_singleton,show rk x 64-1-((hd es x W i).length+1)=D by omega]
      have hj3:aY (fun x=>x) ((hd es x W i++[(i:Int)]).map (eg es))=true:=by
       rw[List.map_append,List.map_singleton,j9,u.join,Bool.true_and]
       show(!(rh es x W i (eg es i).1 == rh es x W i (eg es i).2))=true
       simpa using hab
      refine ih (i+1) (by omega) (j+1) _ O u0 l0 z n' hdr' hjl { dcd:=u.dcd.RP,fresh:=fun k hk=>by rw[lU,if_neg (by omega)]; exact u.fresh k (by omega),join:=by rw[hd3]; exact hj3,lg:=d2,len:=by rw[hd3,List.length_append,List.length_singleton]; omega,rest:=?_,pos:=?_} (by omega)
      ·rw[hd3,hG3];rcases List.mem_append.1 t1 with t1|t1
       ·obtain⟨t',t3,rfl⟩:=List.mem_map.1 t1;exact⟨t',t3,by rw[←t2,List.append_assoc]; rfl⟩
       ·exact absurd (rT es _ _ _ t t1 _ ht) hnotL
      ·rw[hd3,hG3];intro p t' hp;have hlt:=(List.getElem?_eq_some_iff.1 hp).1;have:=tp p ((i:Int)::t') (by rw[List.getElem?_append_left (by rw[List.length_map]; exact hlt),List.getElem?_map,hp]; rfl)
       rw[this,List.append_assoc]; rfl
   ·
    have hnt:(i:Int) ∉ t:=fun hk=>hmem (by rw[←t2]; exact List.mem_append.2 (.inr hk))
    obtain⟨t',q',c,f1,f2,f3,f4⟩:=yo h hx h0 hn x1 hinc u.dcd (show i<es.length by omega) hin u.join
    rw[hm'] at f4;have hcb:c≤1073741824:=by
     by_cases hab:rh es x W i (eg es i).1=rh es x W i (eg es i).2
     ·rw[f3 hab]; decide
     ·obtain⟨_,_,hc⟩:=f4 hab;have h1:=u6 es (il es x (i+1) d) (rk x 64-1-(hd es x W i).length-1) (bN (rh es x W i) (eg es i));rw[m7 es x _ (i+1) (by omega)] at h1
      have h2:=hB (i+1) (rk x 64-1-(hd es x W i).length-1) (by omega)
      omega
    have l2:q'.length≤1:=f2.len (by show _<18446744073709551616; omega)
    obtain⟨u0,l0,d1,d2⟩:=qR (n:=n) u.lg f2 (by omega) (by omega) (by omega)
    rw[←Int.natCast_add] at d2;have hdel:vQ (cH W (i:Int) true) (i:Int)=W:=uC (u.fresh i (Nat.le_refl _)) true;have hd2:hd es x W (i+1)=hd es x W i:=Cm u.dcd fun _=>rfl;have hr2:rh es x W (i+1)=rh es x W i:=by unfold rh; rw[hd2]
    have st:oZ n LL tgt x1 es x (W,O,s,l,(j:Int))=some (.inl (W,cH O (i:Int) true,u0,l0,((j+1:Nat):Int))):=by
     unfold oZ
     dsimp only
     rw[aL (by omega),al hjl,az,Int.toNat_natCast,hat,ah,FA n tgt _ (by omega) (by omega),ah,aJ hmem,f1,ah]
     dsimp only
     rw[ah]
     dsimp only
     rw[d1,ah,hdel]
     dsimp only
     rw[w1]
    rw[aA st];have hG2:G es x W (i+1)=gw es (il es x (i+1) d) (rk x 64-1-(hd es x W i).length) (rh es x W i):=by
     unfold G;rw[hd2,hr2,hm']
    refine ih (i+1) (by omega) (j+1) W _ u0 l0 (z+c) n' hdr' hjl { dcd:=u.dcd.left fun _=>rfl,fresh:=fun k hk=>u.fresh k (by omega),join:=by rw[hd2]; exact u.join,lg:=d2,len:=by rw[hd2]; exact u.len,rest:=?_,pos:=?_} (by omega)
    ·rw[hd2,hG2];refine⟨t,?_,t2⟩
     by_cases hab:rh es x W i (eg es i).1=rh es x W i (eg es i).2
     ·rwa[qN es (i:Int) _ _ hab] at t1
     ·cases hD:rk x 64-1-(hd es x W i).length with
      | zero =>
       rw[hD] at t1;simp only[gw,List.mem_singleton] at t1;subst t1;cases il es x (i+1) d<;>simp[gw]
      | succ D =>
       rw[hD] at t1;simp only[gw] at t1;rw[if_neg hab] at t1;rcases List.mem_append.1 t1 with t1|t1
       ·obtain⟨t3,_,rfl⟩:=List.mem_map.1 t1;exact absurd List.mem_cons_self hnt
       ·exact t1
    ·rw[hd2,hG2];intro p t3 hp
     by_cases hab:rh es x W i (eg es i).1=rh es x W i (eg es i).2
     ·rw[f3 hab];exact tp p t3 (by rw[qN es (i:Int) _ _ hab]; exact hp)
     ·obtain⟨j1,j2,j3⟩:=f4 hab;obtain⟨D,hD⟩:∃D,rk x 64-1-(hd es x W i).length=D+1:=⟨rk x 64-1-(hd es x W i).length-1,by omega⟩
      rw[hD] at hp tp j3;rw[Nat.add_sub_cancel] at j3;have:=tp (c+p) t3 (by
       simp only[gw];rw[if_neg hab,List.getElem?_append_right (by rw[List.length_map,←j3]; omega),List.length_map,←j3,Nat.add_sub_cancel_left]
       exact hp)
      rw[←Nat.add_assoc] at this;exact this
end
theorem OG (n:Nat) (a b:List Int) (hl:a.length=b.length) (hb:a.length<4611686018427387904):∀(k i n':Nat),i+k=a.length→k<n'→bE (oP n a b) n' ((i:Nat):Int)=some (if a.drop i=b.drop i then .inr () else .inl ()):=by
 intro k
 induction k with
 | zero =>
  intro i n' hi hn;obtain⟨n',rfl⟩:∃m,n'=m+1:=⟨n'-1,by omega⟩
  have e1:oP n a b (i:Int)=some (.inr (.inr ())):=by
   unfold oP;rw[aJ (by omega)]
  rw[aN e1,List.drop_eq_nil_of_le (by omega),List.drop_eq_nil_of_le (by omega),if_pos rfl]
 | succ k ih =>
  intro i n' hi hn;obtain⟨n',rfl⟩:∃m,n'=m+1:=⟨n'-1,by omega⟩
  have ha:i<a.length:=by omega
  have hb':i<b.length:=by omega
  have e2:a[i]? = some a[i]:=List.getElem?_eq_getElem ha;have e3:b[i]? = some b[i]:=List.getElem?_eq_getElem hb';rw[List.drop_eq_getElem_cons ha,List.drop_eq_getElem_cons hb']
  by_cases h:a[i]=b[i]
  ·have e1:oP n a b (i:Int)=some (.inl ((i+1:Nat):Int)):=by
    unfold oP;rw[aL (by omega),al ha,az,Int.toNat_natCast,e2,ah,al hb',az,e3,ah,decide_eq_true h,Bool.not_true,bu,aD (by omega)]
   rw[aA e1,ih (i+1) n' (by omega) (by omega),h]
   by_cases h2:a.drop (i+1)=b.drop (i+1)
   ·rw[if_pos h2,if_pos (by rw[h2])]
   ·rw[if_neg h2,if_neg fun e=>h2 (List.cons.inj e).2]
  ·have e1:oP n a b (i:Int)=some (.inr (.inl ())):=by
    unfold oP;rw[aL (by omega),al ha,az,Int.toNat_natCast,e2,ah,al hb',az,e3,ah,decide_eq_false h,Bool.not_false,bm]
   rw[aN e1,if_neg fun e=>h (List.cons.inj e).1]
theorem Ik (n:Nat) (a b:List Int) (ha:a.length<n) (hb:a.length<4611686018427387904):Qu n a b=some (decide (a=b)):=by
 unfold Qu
 by_cases hl:a.length=b.length
 ·have:=OG n a b hl hb a.length 0 n (by omega) ha
  rw[decide_eq_true (show(a.length:Int)=(b.length:Int) by omega),Bool.not_true,bu]
  rw[show(0:Int)=((0:Nat):Int) from rfl,this,ah,List.drop_zero,List.drop_zero]
  by_cases h:a=b
  ·rw[if_pos h,decide_eq_true h]
  ·rw[if_neg h,decide_eq_false h]
 ·rw[decide_eq_false (show ¬(a.length:Int)=(b.length:Int) by omega),Bool.not_false,bm,decide_eq_false (fun e=>hl (by rw[e]))]
theorem OZ (n:Nat) (T:List (List Int)) (tgt:List Int) (hu:T.Nodup) (hT:T.length≤1073741824) (ht:∀t ∈ T,t.length<n∧t.length<4611686018427387904) {z:Nat} (hz:T[z]? = some tgt) :
  ∀(k i n':Nat),i+k=z→k<n'→bE (rI n T tgt) n' ((i:Nat):Int)=some (z:Int):=by
 have hzl:=(List.getElem?_eq_some_iff.1 hz).1;intro k
 induction k with
 | zero =>
  intro i n' hi hn;obtain⟨n',rfl⟩:∃m,n'=m+1:=⟨n'-1,by omega⟩
  have:i=z:=by omega
  subst this;obtain⟨g1,g2⟩:=ht tgt (List.mem_of_getElem? hz);have e1:rI n T tgt (i:Int)=some (.inr (i:Int)):=by
   unfold rI;rw[al hzl,az,Int.toNat_natCast,hz,ah,Ik n tgt tgt g1 g2,ah,decide_eq_true rfl,Bool.not_true,bu]
  rw[aN e1]
 | succ k ih =>
  intro i n' hi hn;obtain⟨n',rfl⟩:∃m,n'=m+1:=⟨n'-1,by omega⟩
  have hi':i<T.length:=by omega
  have e2:T[i]? = some T[i]:=List.getElem?_eq_getElem hi';obtain⟨g1,g2⟩:=ht T[i] (List.getElem_mem hi');have hne:T[i]≠tgt:=fun e=>by
   rw[e] at e2;have:=(List.getElem?_inj hi' hu).1 (e2.trans hz.symm);omega
  have e1:rI n T tgt (i:Int)=some (.inl ((i+1:Nat):Int)):=by
   unfold rI;rw[al hi',az,Int.toNat_natCast,e2,ah,Ik n _ tgt g1 g2,ah,decide_eq_false hne,Bool.not_false,bm,aD (by omega)]
  rw[aA e1];exact ih (i+1) n' (by omega) (by omega)
theorem HH {N:Int} {es:List (Int × Int)} {x n:Nat} (l:List Int) (hx:x<2 ^ 64) (hl:es.length≤200) (hn:1073741825<n) (hr:kB N es=true→rk x 64≤9) (hb:l.length≤1000):∃r,OC n N es x l=some r∧OV n N es x l=some r:=by
 unfold OC OV;rw[Ft n N es x l hx (by omega) (by omega) (by omega) (by omega) (by omega),HZ n N es x l hx (by omega) (by omega) (by omega) (by omega) (by omega),ah,ah,ah]
 by_cases hc:Mp N es x l=0
 ·rw[decide_eq_true hc,Bool.not_true,bu,bu];obtain⟨M,rfl,hO,h0,hxM,hT⟩:=Fw hc;have hok:kB (M:Int) es=true:=by
   unfold Mp at hc
   by_cases h:kB (M:Int) es=true
   ·exact h
   ·rw[if_neg h] at hc; cases hc
  have hr:=hr hok;obtain⟨g1,g2⟩:=Gi hok hO (n:=n) hx h0 (by omega) hr
  have hinc:=fF hok hO hr 0;have hD:Dcd es x ([]:List (Int × Bool)) [] 0:=⟨fun k hk=>absurd hk (Nat.not_lt_zero _),fun k _=>⟨rfl,rfl⟩⟩;have hrk:=mb hx h0;have htl:∀t ∈ gO es x,t.length<n∧t.length<4611686018427387904:=fun t ht=>by
   have:=sQ ht;omega
  have hG0:G es x [] 0=gO es x:=rfl;have u0:Uk es x l 0 false [] [] [] 0:={ dcd:=hD,fresh:=fun _ _=>rfl,join:=rfl,lg:=Lg.zero,len:=by show 0+1≤_; omega,rest:=⟨l,by rw[hG0]; exact Au hT,rfl⟩,pos:=fun p t hp=>by rw[hG0] at hp; rw[Nat.zero_add]; exact hp}
  have hll:=sQ (Au hT);have hLL:(il es x 0 es.length).length≤36:=by rw[m7 es x es.length 0 (by omega)]; exact hinc
  obtain⟨s',l',z',q1,q2,q3⟩:=HJ hO (n:=n) hx (by omega) (by omega) (M:Int) hinc (fun i d hd=>oV (fF hok hO hr i) hd) hr (tgt:=l) (by omega) (il es x 0 es.length) hLL g2 es.length 0 (by omega) 0 [] [] false [] 0 n rfl (Nat.zero_le _) u0 (by omega)
  have hz:z'<(gO es x).length:=(List.getElem?_eq_some_iff.1 q3).1;have hL:=OZ n (gO es x) l (EZ es x) g2 htl q3 z' 0 n (by omega) (by omega)
  refine⟨(z',0,0,0,0,0,0,0,0),?_,?_⟩
  ·rw[HS hO hx (by omega),ah,ah,oj (by omega),ah]
   dsimp only
   rw[show(0:Int)=((0:Nat):Int) from rfl,q1,ah]
   dsimp only
   rw[ah]
   dsimp only
   rw[M8 (by omega) (by omega) q2,ah]; rfl
  ·rw[g1,ah,show(0:Int)=((0:Nat):Int) from rfl,hL,ah,N4 (by omega) (by omega),ah]
 ·rw[decide_eq_false hc];exact⟨_,rfl,rfl⟩
section
variable {σ ρ : Type}
theorem yS {body:σ→Option (σ ⊕ ρ)} (S:Nat→σ):∀(k:Nat),(∀i,i<k→body (S i)=some (.inl (S (i+1))))→∀n,bE body (n+k) (S 0)=bE body n (S k)
 | 0,_,n=>rfl
 | k+1,h,n=>by
  rw[show n+(k+1)=(n+1)+k by omega,yS S k (fun i hi=>h i (by omega)) (n+1),aA (h k (by omega))]
theorem Bq {body:σ→Option (σ ⊕ ρ)} (S:Nat→σ) (k:Nat) {r:ρ} (h:∀i,i<k→body (S i)=some (.inl (S (i+1)))) (he:body (S k)=some (.inr r)) {n:Nat} (hn:k<n):bE body n (S 0)=some r:=by
 obtain⟨m,rfl⟩:∃m,n=(m+1)+k:=⟨n-k-1,by omega⟩
 rw[yS S k h (m+1),aN he]
end
def gv (l:List Int):List Int:=(l.reverse.dropWhile fun x=>decide (x=0)).reverse
theorem eX (l:List Int) (x:Int):gv (l++[x])=if x=0 then gv l else l++[x]:=by
 unfold gv;rw[List.reverse_append,List.reverse_singleton,List.singleton_append,List.dropWhile_cons]
 by_cases h:x=0
 ·rw[if_pos (decide_eq_true h),if_pos h]
 ·rw[if_neg (by simpa using h),if_neg h]; simp
theorem tB (l:List Int):∀k,gv (l++List.replicate k 0)=gv l
 | 0=>by rw[List.replicate_zero,List.append_nil]
 | k+1=>by rw[List.replicate_succ',←List.append_assoc,eX,if_pos rfl,tB l k]
theorem IY:gv [] = []:=rfl
theorem KR (n:Nat) (l:List Int) (hb:l.length<4611686018427387904):∀(i n':Nat),i≤l.length→i<n'→bE (fx n l) n' ((i:Nat):Int)=some (((gv (l.take i)).length:Nat):Int)∧gv (l.take i)=l.take (gv (l.take i)).length∧(gv (l.take i)).length≤l.length:=by
 intro i
 induction i with
 | zero =>
  intro n' hi hn;obtain⟨n',rfl⟩:∃m,n'=m+1:=⟨n'-1,by omega⟩
  have e1:fx n l ((0:Nat):Int)=some (.inr ((0:Nat):Int)):=rfl;exact⟨aN e1,rfl,Nat.zero_le _⟩
 | succ i ih =>
  intro n' hi hn;obtain⟨n',rfl⟩:∃m,n'=m+1:=⟨n'-1,by omega⟩
  have hl:i<l.length:=by omega
  have e2:l[i]? = some l[i]:=List.getElem?_eq_getElem hl;have w1:IntKind.wrap .i64 (((i+1:Nat):Int)-1)=((i:Nat):Int):=by rw[aE (by omega) (by omega)]; omega
  have ht:l.take (i+1)=l.take i++[l[i]]:=(List.take_append_getElem hl).symm;rw[ht,eX]
  by_cases h:l[i]=0
  ·have e1:fx n l ((i+1:Nat):Int)=some (.inl ((i:Nat):Int)):=by
    unfold fx;rw[aL (by omega),w1,al hl,az,Int.toNat_natCast,e2,ah,ah,aL h]
   rw[aA e1,if_pos h];exact ih n' (by omega) (by omega)
  ·have e1:fx n l ((i+1:Nat):Int)=some (.inr ((i+1:Nat):Int)):=by
    unfold fx;rw[aL (by omega),w1,al hl,az,Int.toNat_natCast,e2,ah,ah,aJ h]
   rw[aN e1,if_neg h,←ht];have hlen:(l.take (i+1)).length=i+1:=by rw[List.length_take]; omega
   rw[hlen];exact⟨rfl,rfl,hi⟩
theorem wS {n:Nat} {l:List Int} (hb:l.length<4611686018427387904) (hn:l.length<n):rK n l=some (gv l):=by
 obtain⟨h1,h2,h3⟩:=KR n l hb l.length n (Nat.le_refl _) hn;rw[List.take_length] at h1 h2 h3;unfold rK;have hok:okB 0 (((gv l).length:Nat):Int) l.length=true:=decide_eq_true ⟨by omega,by omega,by omega⟩
 rw[h1,ah,hok,az]
 show some ((l.drop 0).take ((gv l).length-0))=_
 rw[List.drop_zero,Nat.sub_zero,←h2]
theorem gK {n:Nat} (b:Bool) {l:List Int} (hb:l.length<4611686018427387904) (hn:l.length<n):om n b l=some (b && decide (0<((gv l).length:Int)),gv l):=by
 unfold om;rw[wS hb hn,ah];cases b<;>rfl
def gJ (X:Nat→Nat):Nat→Bool
 | 0=>true
 | i+1=>gJ X i && decide (X i=0)
def ng (X:Nat→Nat) (i:Nat):Nat:=if gJ X i then(if X i=0 then 0 else 4294967296-X i) else 4294967295-X i
theorem wH {X:Nat→Nat} (hX:∀i,X i<4294967296):∀i,gJ (ng X) i=gJ X i
 | 0=>rfl
 | i+1=>by
  have h:=hX i;simp only[gJ,wH hX i];cases hl:gJ X i with
  | false=>rfl
  | true =>
   simp only[Bool.true_and,ng,hl,if_true]
   congr 1
   apply propext
   split<;>omega
theorem Pt {X:Nat→Nat} (hX:∀i,X i<4294967296) (i:Nat):ng (ng X) i=X i:=by
 have h:=hX i;have hl:=wH hX i;unfold ng;unfold ng at hl;rw[hl];cases gJ X i with
 | true=>simp only[if_true]; split<;>split<;>omega
 | false=>simp only[Bool.false_eq_true,if_false]; omega
theorem Io {X:Nat→Nat} (hX:∀i,X i<4294967296) (i:Nat):ng X i<4294967296:=by
 have h:=hX i;unfold ng
 split
 ·split<;>omega
 ·omega
def fl (X:Nat→Nat) (m:Nat):List Int:=(List.range m).map fun i=>((X i:Nat):Int)
theorem cQ (X:Nat→Nat) (m:Nat):(fl X m).length=m:=by unfold fl; simp
theorem lZ (X:Nat→Nat) (m:Nat):fl X (m+1)=fl X m++[((X m:Nat):Int)]:=by unfold fl; rw[List.range_succ,List.map_append]; rfl
theorem LQ (X:Nat→Nat) {m i:Nat} (h:i<m):(fl X m)[i]? = some ((X i:Nat):Int):=by unfold fl; rw[List.getElem?_map,List.getElem?_range h]; rfl
theorem I1 {X Y:Nat→Nat} {m:Nat} (h:∀i,i<m→X i=Y i):fl X m=fl Y m:=by
 unfold fl;exact List.map_congr_left fun i hi=>by rw[h i (List.mem_range.1 hi)]
def Zl:List Int:=(List.replicate (17:Int).toNat (0:Int)).set ((16:Int).toNat) 1
theorem P7:∀i:Fin 16,Zl[i.val]? = some 0:=by decide
theorem yK {n:Nat} (hn:40<n) {X:Nat→Nat} {m:Nat} (hm:m≤16) (hX:∀i,X i<4294967296) (h1:∀i,m≤i→i<16→X i=0) (hne:gJ X 16=false):qD n Zl (fl X m)=some (gv (fl (ng X) 16)):=by
 let S:Nat→List Int × Int × Int:=fun i=>if i≤16 then(fl (ng X) i,if gJ X i then 0 else 1,((i:Nat):Int)) else(fl (ng X) 16++[0],0,((17:Nat):Int))
 have key:∀i,i<16→ic n Zl (fl X m) (fl (ng X) i,if gJ X i then 0 else 1,((i:Nat):Int))=some (.inl (fl (ng X) (i+1),if gJ X (i+1) then 0 else 1,((i+1:Nat):Int))):=fun i hi=>by
  have hx:=hX i;have hz:Zl[i]? = some 0:=P7 ⟨i,hi⟩;have hc:∃c:Nat,c≤1∧(if gJ X i then(0:Int) else 1)=(c:Int)∧c=(if gJ X i then 0 else 1):=by
   cases gJ X i
   ·exact⟨1,by omega,rfl,rfl⟩
   ·exact⟨0,by omega,rfl,rfl⟩
  obtain⟨c,c2,c1,c0⟩:=hc;have hv:(br (decide (((i:Nat):Int)<((fl X m).length:Int))) (gd (bz ((i:Nat):Int) (fl X m).length) (ob ((fl X m)[((i:Nat):Int).toNat]?) fun x3=>some (IntKind.wrap .i64 ((IntKind.wrap .i64 (0-(c:Int)))-x3)))) (some (IntKind.wrap .i64 (0-(c:Int)))))=some (-(c:Int)-(X i:Int)):=by
   rw[cQ]
   by_cases him:i<m
   ·rw[aL (by omega),al him,az,Int.toNat_natCast,LQ X him,ah,aE (x:=0-(c:Int)) (by omega) (by omega),aE (by omega) (by omega)]
    congr 1; omega
   ·rw[aJ (by omega),aE (by omega) (by omega),h1 i (by omega) hi]
    congr 1; omega
  have hlen:gY (fl (ng X) i++[((ng X i:Nat):Int)]).length=true:=cq (by rw[List.length_append,cQ,List.length_singleton]; omega)
  unfold ic
  dsimp only
  rw[aL (show((i:Nat):Int)<((Zl.length:Nat):Int) by show((i:Nat):Int)<((17:Nat):Int); omega),al (show i<Zl.length by show i<17; omega),az,Int.toNat_natCast,hz,ah,c1]
  rw[Int.toNat_natCast] at hv;rw[hv,ah];have hs:(br (decide (-(c:Int)-(X i:Int)<0)) (some (1,IntKind.wrap .i64 (-(c:Int)-(X i:Int)+4294967296))) (some (0,-(c:Int)-(X i:Int))))=some ((if gJ X (i+1) then(0:Int) else 1),((ng X i:Nat):Int)):=by
   by_cases hl:gJ X i=true
   ·simp only[hl,if_true] at c0;subst c0;simp only[gJ,ng,hl,Bool.true_and,if_true,decide_eq_true_eq]
    by_cases h0:X i=0
    ·rw[aJ (by omega),if_pos h0,if_pos h0,h0]; rfl
    ·rw[aL (by omega),if_neg h0,if_neg h0,aE (by omega) (by omega)]
     congr 2; omega
   ·rw[Bool.not_eq_true] at hl;simp only[hl,Bool.false_eq_true,if_false] at c0;subst c0;simp only[gJ,ng,hl,Bool.false_and,Bool.false_eq_true,if_false];rw[aL (by omega),aE (by omega) (by omega)]
    congr 2; omega
  rw[hs,ah]
  dsimp only
  rw[hlen,az,lZ,aD (by omega)]
 have k0:ic n Zl (fl X m) (fl (ng X) 16,if gJ X 16 then 0 else 1,((16:Nat):Int))=some (.inl (fl (ng X) 16++[0],0,((17:Nat):Int))):=by
  rw[hne];have hz:Zl[16]? = some 1:=rfl;have hlen:gY (fl (ng X) 16++[(0:Int)]).length=true:=cq (by rw[List.length_append,cQ,List.length_singleton]; omega)
  unfold ic
  dsimp only
  rw[aL (show((16:Nat):Int)<((Zl.length:Nat):Int) by decide),al (show 16<Zl.length by decide),az,Int.toNat_natCast,hz,ah,cQ,aJ (by omega),ah]
  have e:IntKind.wrap .i64 ((1:Int)-(if (false:Bool)=true then 0 else 1))=0:=by decide
  rw[e,aJ (by omega),ah]
  dsimp only
  rw[hlen,az,aD (by omega)]
 have k3:ic n Zl (fl X m) (fl (ng X) 16++[0],0,((17:Nat):Int))=some (.inr (fl (ng X) 16++[0])):=by
  unfold ic
  dsimp only
  rw[aJ (show ¬((17:Nat):Int)<((Zl.length:Nat):Int) by decide)]
 have hrun:=Bq (body:=ic n Zl (fl X m)) S 17 (r:=fl (ng X) 16++[0]) (fun i hi=>by
  by_cases h:i<16
  ·simp only[S];rw[if_pos (show i≤16 by omega),if_pos (show i+1≤16 by omega)]
   exact key i h
  ·have:i=16:=by omega
   subst this;exact k0) k3 (n:=n) (by omega)
 have hS0:S 0=(([]:List Int),0,0):=rfl;rw[hS0] at hrun;unfold qD;rw[hrun,ah,wS (by rw[List.length_append,cQ]; decide) (by rw[List.length_append,cQ,List.length_singleton]; omega),ah,eX,if_pos rfl]
def fw (X:Nat→Nat) (j:Nat):Nat:=X (2*j)+X (2*j+1)*4294967296
def qT (X:Nat→Nat) (i j:Nat):Nat:=(if 2*j<i then X (2*j) else 0)+(if 2*j+1<i then X (2*j+1)*4294967296 else 0)
theorem F6 {n:Nat} (hn:40<n) {X:Nat→Nat} {m:Nat} (hm:m≤16) (hX:∀i,X i<4294967296) (h0:∀i,m≤i→i<16→X i=0):bE (jt n (fl X m)) n (([0,0,0,0,0,0,0,0]:List (Nat)),0)=some ((List.range 8).map (fw X)):=by
 have key:∀i,i<m→jt n (fl X m) ((List.range 8).map (qT X i),((i:Nat):Int))=some (.inl ((List.range 8).map (qT X (i+1)),((i+1:Nat):Int))):=fun i hi=>by
  have hx:=hX i;have hd:IntKind.wrap .i64 (Int.tdiv (i:Int) 2)=((i/2:Nat):Int):=by rw[Int.tdiv_eq_ediv_of_nonneg (by omega),aE (by omega) (by omega)]; omega
  have hmm:IntKind.wrap .i64 (32*Int.tmod (i:Int) 2)=((32*(i%2):Nat):Int):=by rw[Int.tmod_eq_emod_of_nonneg (by omega),aE (by omega) (by omega)]; omega
  have hj:i/2<8:=by omega
  have e4:((List.range 8).map (qT X i))[i/2]? = some (qT X i (i/2)):=by rw[List.getElem?_map,List.getElem?_range hj]; rfl
  have e5:ui .u64 ((X i:Nat):Int)=X i:=by
   show(((X i:Nat):Int)%((2 ^ 64:Nat):Int)).toNat=X i
   omega
  have hsum:uw .u64 (qT X i (i/2)+gz .u64 (X i) (32*(i%2)))=qT X (i+1) (i/2):=by
   rw[nT (by omega)]
   have hp:=hX (i-1);rcases Nat.mod_two_eq_zero_or_one i with hr|hr
   ·have h2:2*(i/2)=i:=by omega
    have q1:qT X i (i/2)=0:=by unfold qT; rw[h2,if_neg (Nat.lt_irrefl i),if_neg (by omega)]
    have q2:qT X (i+1) (i/2)=X i:=by unfold qT; rw[h2,if_pos (by omega),if_neg (by omega),Nat.add_zero]
    rw[q1,q2,hr,Nat.mul_zero,Nat.pow_zero,Nat.mul_one,jX (a:=X i) (by omega),Nat.zero_add,jX (by omega)]
   ·have h2:2*(i/2)=i-1:=by omega
    have h3:i-1+1=i:=by omega
    have e32:(2:Nat) ^ (32*1)=4294967296:=by decide
    have q1:qT X i (i/2)=X (i-1):=by unfold qT; rw[h2,h3,if_pos (by omega),if_neg (Nat.lt_irrefl i),Nat.add_zero]
    have q2:qT X (i+1) (i/2)=X (i-1)+X i*4294967296:=by unfold qT; rw[h2,h3,if_pos (by omega),if_pos (by omega)]
    rw[q1,q2,hr,e32,jX (a:=X i*4294967296) (by omega),jX (by omega)]
  have hset:((List.range 8).map (qT X i)).set (i/2) (qT X (i+1) (i/2))=(List.range 8).map (qT X (i+1)):=by
   refine List.ext_getElem (by simp) fun j h1 h2=>?_
   rw[List.getElem_set]
   split
   ·rename_i e; subst e; simp
   ·rename_i e;simp only[List.getElem_map,List.getElem_range];unfold qT;have a1:(2*j<i)↔(2*j<i+1):=by omega
    have a2:(2*j+1<i)↔(2*j+1<i+1):=by omega
    simp only[a1,a2]
  unfold jt
  dsimp only
  rw[cQ,aL (by omega),hd,hmm,al hj,az,Int.toNat_natCast,e4,ah,al hi,az,Int.toNat_natCast,LQ X hi,ah,cy (Int.natCast_nonneg _),Int.toNat_natCast,e5,ah,az,hsum,hset,aD (by omega)]
 have hend:jt n (fl X m) ((List.range 8).map (qT X m),((m:Nat):Int))=some (.inr ((List.range 8).map (qT X m))):=by
  unfold jt
  dsimp only
  rw[cQ,aJ (by omega)]
 have hrun:=Bq (body:=jt n (fl X m)) (fun i=>((List.range 8).map (qT X i),((i:Nat):Int))) m key hend (n:=n) (by omega)
 have hs:(List.range 8).map (qT X 0)=([0,0,0,0,0,0,0,0]:List Nat):=rfl;rw[hs] at hrun;have hw:(List.range 8).map (qT X m)=(List.range 8).map (fw X):=List.map_congr_left fun j hj=>by
  have hj:=List.mem_range.1 hj;unfold qT fw
  by_cases g1:2*j<m
  ·by_cases g2:2*j+1<m
   ·rw[if_pos g1,if_pos g2]
   ·rw[if_pos g1,if_neg g2,h0 (2*j+1) (by omega) (by omega),Nat.zero_mul]
  ·rw[if_neg g1,if_neg (by omega),h0 (2*j) (by omega) (by omega),h0 (2*j+1) (by omega) (by omega),Nat.zero_mul]
 rw[hw] at hrun;exact hrun
theorem Cr {n:Nat} (hn:40<n) {X:Nat→Nat} (hX:∀i,X i<4294967296):A7 n (fw X 0) (fw X 1) (fw X 2) (fw X 3) (fw X 4) (fw X 5) (fw X 6) (fw X 7)=some (fl X 16):=by
 have hls:[fw X 0,fw X 1,fw X 2,fw X 3,fw X 4,fw X 5,fw X 6,fw X 7]=(List.range 8).map (fw X):=rfl;have key:∀i,i<8→lz n ((List.range 8).map (fw X),fl X (2*i),((i:Nat):Int))=some (.inl ((List.range 8).map (fw X),fl X (2*(i+1)),((i+1:Nat):Int))):=fun i hi=>by
  have h1:=hX (2*i);have h2:=hX (2*i+1);have e4:((List.range 8).map (fw X))[i]? = some (fw X i):=by rw[List.getElem?_map,List.getElem?_range hi]; rfl
  have a1:fw X i%4294967296=X (2*i):=by unfold fw; omega
  have a2:fw X i/4294967296=X (2*i+1):=by unfold fw; omega
  unfold lz
  dsimp only
  rw[aL (by omega),al hi,az,Int.toNat_natCast,e4,ah,az,a1,a2,jX (a:=X (2*i+1)) (by omega),aE (x:=((X (2*i):Nat):Int)) (by omega) (by omega),aE (x:=((X (2*i+1):Nat):Int)) (by omega) (by omega),cq (by rw[List.length_append,cQ]; simp only[List.length_cons,List.length_nil]; omega),az,aD (by omega)]
  rw[show 2*(i+1)=(2*i+1)+1 by omega,lZ,lZ,List.append_assoc]; rfl
 have hend:lz n ((List.range 8).map (fw X),fl X 16,((8:Nat):Int))=some (.inr (fl X 16)):=rfl;have hrun:=Bq (body:=lz n) (fun i=>((List.range 8).map (fw X),fl X (2*i),((i:Nat):Int))) 8 key hend (n:=n) (by omega)
 unfold A7;rw[hls];rw[show(([]:List Int),(0:Int))=(fl X (2*0),((0:Nat):Int)) from rfl,hrun,ah]
def X2 (a b i:Nat):Nat:=if i=0 then a else if i=1 then b else 0
theorem qu {a b:Nat} (ha:a<4294967296) (hb:b<4294967296) (i:Nat):X2 a b i<4294967296:=by
 unfold X2; split
 ·exact ha
 ·split
  ·exact hb
  ·decide
def m2 (a b:Nat):Nat:=if b=0 then(if a=0 then 0 else 1) else 2
theorem Dr (a b:Nat):m2 a b≤2:=by unfold m2; split<;>(try split)<;>omega
theorem Ck {a b i:Nat} (h:m2 a b≤i):X2 a b i=0:=by
 unfold m2 at h;unfold X2
 split at h
 ·split at h
  ·split<;>(try split)<;>omega
  ·split<;>(try split)<;>omega
 ·rw[if_neg (by omega),if_neg (by omega)]
theorem QJ (a b:Nat):gv [(a:Int),(b:Int)]=fl (X2 a b) (m2 a b):=by
 have e:[(a:Int),(b:Int)] = [(a:Int)]++[(b:Int)]:=rfl;have e1:[(a:Int)] = []++[(a:Int)]:=rfl;rw[e,eX,e1,eX,IY];unfold m2
 by_cases hb:b=0
 ·rw[if_pos (by omega),if_pos hb]
  by_cases ha:a=0
  ·rw[if_pos (by omega),if_pos ha]; rfl
  ·rw[if_neg (by omega),if_neg ha]; rfl
 ·rw[if_neg (by omega),if_neg hb]; rfl
theorem Ki (a b:Nat):gv (fl (X2 a b) (m2 a b))=fl (X2 a b) (m2 a b):=by
 unfold m2
 by_cases hb:b=0
 ·rw[if_pos hb]
  by_cases ha:a=0
  ·rw[if_pos ha]; rfl
  ·rw[if_neg ha,lZ,eX,if_neg (show ¬((X2 a b 0:Nat):Int)=0 by show ¬((a:Nat):Int)=0; omega)]
 ·rw[if_neg hb,lZ,eX,if_neg (show ¬((X2 a b 1:Nat):Int)=0 by show ¬((b:Nat):Int)=0; omega)]
theorem yV (a b:Nat):gv (fl (X2 a b) 16)=fl (X2 a b) (m2 a b):=by
 have e:fl (X2 a b) 16 = [(a:Int),(b:Int)]++List.replicate 14 0:=rfl;rw[e,tB,QJ]
theorem zq {X:Nat→Nat}:∀{i:Nat},gJ X i=true↔∀j,j<i→X j=0
 | 0=>⟨fun _ j hj=>absurd hj (Nat.not_lt_zero _),fun _=>rfl⟩
 | i+1=>by
  rw[gJ,Bool.and_eq_true,zq,decide_eq_true_eq];constructor
  ·rintro⟨h1,h2⟩ j hj
   by_cases e:j=i
   ·rw[e]; exact h2
   ·exact h1 j (by omega)
  ·exact fun h=>⟨fun j hj=>h j (by omega),h i (by omega)⟩
theorem xR {a b i:Nat} (h:a+b≠0) (hi:2≤i):gJ (X2 a b) i=false:=by
 rw[←Bool.not_eq_true,zq];intro g;have h0:a=0:=g 0 (by omega)
 have h1:b=0:=g 1 (by omega)
 omega
theorem AK {a b i:Nat} (h:a+b≠0) (hi:2≤i):ng (X2 a b) i=4294967295:=by
 have e:X2 a b i=0:=by unfold X2; rw[if_neg (by omega),if_neg (by omega)]
 unfold ng;rw[xR h hi,e]; rfl
def Yk (s:Bool) (a b:Nat):Nat→Nat:=if s then ng (X2 a b) else X2 a b
theorem lQ {a b j:Nat} (hj:1≤j):fw (Yk false a b) j=0:=by
 have e1:X2 a b (2*j)=0:=by unfold X2; rw[if_neg (by omega),if_neg (by omega)]
 have e2:X2 a b (2*j+1)=0:=by unfold X2; rw[if_neg (by omega),if_neg (by omega)]
 show X2 a b (2*j)+X2 a b (2*j+1)*4294967296=0
 rw[e1,e2]
theorem Hw {a b:Nat} (h:a+b≠0):gv (fl (ng (X2 a b)) 16)=fl (ng (X2 a b)) 16:=by
 rw[lZ,eX,AK h (by omega),if_neg (by decide)]
theorem Pz {a b:Nat} (ha:a<4294967296) (hb:b<4294967296) (h:a+b≠0):fw (ng (X2 a b)) 0=18446744073709551616-(a+b*4294967296):=by
 have e0:X2 a b 0=a:=rfl;have e1:X2 a b 1=b:=rfl;have l0:gJ (X2 a b) 0=true:=rfl;have l1:gJ (X2 a b) 1=decide (a=0):=by
  show(true && decide (X2 a b 0=0))=_
  rw[Bool.true_and]; rfl
 show ng (X2 a b) 0+ng (X2 a b) 1*4294967296=_
 unfold ng;rw[l0,l1,e0,e1,if_pos rfl]
 by_cases h0:a=0
 ·rw[decide_eq_true h0,if_pos h0,if_pos rfl,if_neg (by omega)]; omega
 ·rw[decide_eq_false h0,if_neg h0,if_neg (by simp)]; omega
theorem uS {a b j:Nat} (h:a+b≠0) (hj:1≤j):fw (ng (X2 a b)) j=18446744073709551615:=by
 unfold fw;rw[AK h (by omega),AK h (by omega)]
section
variable {n : Nat} {k : Int} {a b : Nat}
theorem B9 (hn:40<n) (h1 : -9223372036854775808≤k) (h2:k<9223372036854775808) (hv:k.natAbs=a+b*4294967296) (ha:a<4294967296) (hb:b<4294967296):A3 n k=some (decide (k<0),fl (X2 a b) (m2 a b)):=by
 have hvv:br (decide (k<0)) (some (Al .u64 (ui .u64 k))) (some (ui .u64 k))=some (a+b*4294967296):=by
  by_cases hk:k<0
  ·rw[aL hk]
   congr 1
   show(18446744073709551616-(k%18446744073709551616).toNat%18446744073709551616)%18446744073709551616=_
   omega
  ·rw[aJ hk]
   congr 1
   show(k%18446744073709551616).toNat=_
   omega
 have e1:(a+b*4294967296)%4294967296=a:=by omega
 have e2:(a+b*4294967296)/4294967296=b:=by omega
 unfold A3;rw[hvv,ah,e1,e2,jX (a:=b) (by omega),aE (x:=((a:Nat):Int)) (by omega) (by omega),aE (x:=((b:Nat):Int)) (by omega) (by omega),gK _ (by simp) (by simp; omega),QJ,ah]
 dsimp only
 congr 2
 by_cases hk:k<0
 ·rw[decide_eq_true hk,Bool.true_and,cQ];refine decide_eq_true ?_;unfold m2
  split
  ·split
   ·omega
   ·decide
  ·decide
 ·rw[decide_eq_false hk,Bool.false_and]
theorem OE (hn:40<n) (ha:a<4294967296) (hb:b<4294967296) (s:Bool) (hs:s=true→a+b≠0):Kh n s (fl (X2 a b) (m2 a b))=some (fw (Yk s a b) 0,fw (Yk s a b) 1,fw (Yk s a b) 2,fw (Yk s a b) 3,fw (Yk s a b) 4,fw (Yk s a b) 5,fw (Yk s a b) 6,fw (Yk s a b) 7,0):=by
 have hm:=Dr a b;have e0:(List.replicate (16:Int).toNat (0:Int))[(15:Int).toNat]? = some 0:=rfl;have h0:((List.replicate (16:Int).toNat (0:Int)).set ((15:Int).toNat) 2147483648).length=16:=rfl;have e1:j8 n (fl (X2 a b) (m2 a b)) ((List.replicate (16:Int).toNat (0:Int)).set ((15:Int).toNat) 2147483648)=some (((m2 a b:Nat):Int)-16):=by
  unfold j8;rw[h0,cQ,decide_eq_false (show ¬((m2 a b:Nat):Int)=((16:Nat):Int) by omega),Bool.not_false,bm,aE (by omega) (by omega)]; rfl
 have f0:(List.replicate (17:Int).toNat (0:Int))[(16:Int).toNat]? = some 0:=rfl;have fz:(List.replicate (17:Int).toNat (0:Int)).set ((16:Int).toNat) 1=Zl:=rfl;unfold Kh;rw[show decide ((0:Int)≤16)=true from rfl,show gY ((16:Int).toNat)=true from rfl,show bz 15 ((16:Int).toNat)=true from rfl,az,az,az,e0,ah,e1,ah,aJ (by omega),aJ (by omega),ah,bu]
 cases s with
 | false =>
  rw[bu,ah,F6 hn (by omega) (qu ha hb) (fun i h _=>Ck h),ah]
  rfl
 | true =>
  have h:=hs rfl;rw[bm,show decide ((0:Int)≤17)=true from rfl,show gY ((17:Int).toNat)=true from rfl,show bz 16 ((17:Int).toNat)=true from rfl,az,az,az,f0,ah,fz,yK hn (by omega) (qu ha hb) (fun i h _=>Ck h) (xR h (by omega)),ah,ah,Hw h,F6 hn (Nat.le_refl _) (Io (qu ha hb)) (fun i h2 h1=>absurd h1 (by omega)),ah]
  rfl
theorem OQ (hn:40<n) (h1 : -9223372036854775808≤k) (h2:k<9223372036854775808) (hv:k.natAbs=a+b*4294967296) (ha:a<4294967296) (hb:b<4294967296):xY n k=some (fw (Yk (decide (k<0)) a b) 0,fw (Yk (decide (k<0)) a b) 1,fw (Yk (decide (k<0)) a b) 2,fw (Yk (decide (k<0)) a b) 3,fw (Yk (decide (k<0)) a b) 4,fw (Yk (decide (k<0)) a b) 5,fw (Yk (decide (k<0)) a b) 6,fw (Yk (decide (k<0)) a b) 7):=by
 unfold xY;rw[B9 hn h1 h2 hv ha hb,ah]
 dsimp only
 rw[OE hn ha hb _ (fun h=>by have:=of_decide_eq_true h; omega),ah]
theorem Oh (hn:40<n) (ha:a<4294967296) (hb:b<4294967296) (s:Bool) (hs:s=true→a+b≠0):MF n (fw (Yk s a b) 0) (fw (Yk s a b) 1) (fw (Yk s a b) 2) (fw (Yk s a b) 3) (fw (Yk s a b) 4) (fw (Yk s a b) 5) (fw (Yk s a b) 6) (fw (Yk s a b) 7)=some (s,fl (X2 a b) (m2 a b)):=by
 have hm:=Dr a b;have f0:(List.replicate (17:Int).toNat (0:Int))[(16:Int).toNat]? = some 0:=rfl;have fz:(List.replicate (17:Int).toNat (0:Int)).set ((16:Int).toNat) 1=Zl:=rfl;unfold MF;cases s with
 | false =>
  have h7:fw (Yk false a b) 7=0:=lQ (by omega)
  rw[Cr hn (X:=Yk false a b) (qu ha hb),ah,h7,aL (by decide),gK _ (by rw[cQ]; decide) (by rw[cQ]; omega),ah]
  show some (_,gv (fl (X2 a b) 16))=_
  rw[yV]; rfl
 | true =>
  have h:=hs rfl;have h7:fw (Yk true a b) 7=18446744073709551615:=uS h (by omega)
  rw[Cr hn (X:=Yk true a b) (Io (qu ha hb)),ah,h7,aJ (by decide),show decide ((0:Int)≤17)=true from rfl,show gY ((17:Int).toNat)=true from rfl,show bz 16 ((17:Int).toNat)=true from rfl,az,az,az,f0,ah,fz]
  show ob (rK n (fl (ng (X2 a b)) 16)) _=_
  rw[wS (by rw[cQ]; decide) (by rw[cQ]; omega),ah,Hw h,yK hn (Nat.le_refl _) (Io (qu ha hb)) (fun i h1 h2=>absurd h2 (by omega)) (by rw[wH (qu ha hb)]; exact xR h (by omega)),ah,I1 (Y:=X2 a b) (fun i _=>Pt (qu ha hb) i),yV,gK _ (by rw[cQ]; omega) (by rw[cQ]; omega),Ki,cQ,ah]
  dsimp only
  congr 2
  rw[Bool.true_and];refine decide_eq_true ?_;unfold m2
  split
  ·split
   ·omega
   ·decide
  ·decide
theorem Hx {x y c d:Int} (hn:40<n):j8 n [x,y] [c,d]=some (if y=d then(if x=c then 0 else IntKind.wrap .i64 (x-c)) else IntKind.wrap .i64 (y-d)):=by
 obtain⟨m,rfl⟩:∃m,n=m+3:=⟨n-3,by omega⟩
 show(ob (α:=(Int) ⊕ (Unit)) (bE (jb (m+3) [x,y] [c,d]) (m+3) 1) fun r43=>match r43 with | .inl v27=>some v27 | .inr _=>some 0)=_
 by_cases h1:y=d
 ·subst h1;have s1:jb (m+3) [x,y] [c,y] 1=some (.inl 0):=by
   show br (!decide (y=y)) _ _=_
   rw[decide_eq_true rfl]; rfl
  rw[if_pos rfl,aA s1]
  by_cases h2:x=c
  ·subst h2;have s0:jb (m+3) [x,y] [x,y] 0=some (.inl (-1)):=by
    show br (!decide (x=x)) _ _=_
    rw[decide_eq_true rfl]; rfl
   have se:jb (m+3) [x,y] [x,y] (-1)=some (.inr (.inr ())):=rfl;rw[if_pos rfl,aA s0,aN se]; rfl
  ·have s0:jb (m+3) [x,y] [c,y] 0=some (.inr (.inl (IntKind.wrap .i64 (x-c)))):=by
    show br (!decide (x=c)) (some (Sum.inr (Sum.inl (IntKind.wrap .i64 (x-c))))) _=_
    rw[decide_eq_false h2]; rfl
   rw[if_neg h2,aN s0]; rfl
 ·have s1:jb (m+3) [x,y] [c,d] 1=some (.inr (.inl (IntKind.wrap .i64 (y-d)))):=by
   show br (!decide (y=d)) (some (Sum.inr (Sum.inl (IntKind.wrap .i64 (y-d))))) _=_
   rw[decide_eq_false h1]; rfl
  rw[if_neg h1,aN s1]; rfl
theorem D7 {l:List Int} {c d:Int} (hl:l.length<2):j8 n l [c,d]=some ((l.length:Int)-2):=by
 unfold j8;rw[decide_eq_false (show ¬(l.length:Int)=(([c,d]:List Int).length:Int) by show ¬(l.length:Int)=((2:Nat):Int); omega),Bool.not_false,bm]
 show some (IntKind.wrap .i64 ((l.length:Int)-2))=_
 rw[aE (by omega) (by omega)]
theorem DR {c d:Nat} (hn:40<n) (ha:a<4294967296) (hb:b<4294967296) (hc:c<4294967296) (hd:d<4294967296) (hle:a+b*4294967296≤c+d*4294967296):(∃r,j8 n (fl (X2 a b) (m2 a b)) [(c:Int),(d:Int)]=some r∧r<0)∨(j8 n (fl (X2 a b) (m2 a b)) [(c:Int),(d:Int)]=some 0∧fl (X2 a b) (m2 a b) = [(c:Int),(d:Int)]):=by
 by_cases h:b=0
 ·refine .inl ⟨_,D7 (by rw[cQ]; unfold m2; rw[if_pos h]; split<;>omega),?_⟩
  rw[cQ];unfold m2;rw[if_pos h]
  split<;>omega
 ·have e:fl (X2 a b) (m2 a b) = [(a:Int),(b:Int)]:=by unfold m2; rw[if_neg h]; rfl
  rw[e,Hx hn]
  by_cases h1:b=d
  ·subst h1;rw[if_pos rfl]
   by_cases h2:a=c
   ·subst h2;rw[if_pos rfl];exact .inr ⟨rfl,rfl⟩
   ·rw[if_neg (by omega),aE (by omega) (by omega)]
    exact .inl ⟨_,rfl,by omega⟩
  ·rw[if_neg (by omega),aE (by omega) (by omega)]
   exact .inl ⟨_,rfl,by omega⟩
def kL:List Int:=[((0:Nat):Int),((2147483648:Nat):Int)]
def jP:List Int:=[((4294967295:Nat):Int),((2147483647:Nat):Int)]
theorem Hr (hn:40<n):qD n kL kL=some []:=by
 obtain⟨m,rfl⟩:∃m,n=m+40:=⟨n-40,by omega⟩
 rfl
theorem FO (hn:40<n):qD n jP jP=some []:=by
 obtain⟨m,rfl⟩:∃m,n=m+40:=⟨n-40,by omega⟩
 rfl
theorem F9 (hn:100<n) (ha:a<4294967296) (hb:b<4294967296) (s:Bool) (hs:s=true→a+b*4294967296≤9223372036854775808):∃r,qF n s (fl (X2 a b) (m2 a b)) true kL=some r∧¬r<0:=by
 have hm:=Dr a b;have hlen:(fl (X2 a b) (m2 a b)).length≤2:=by rw[cQ]; exact hm
 have key:∃l',yY n s (fl (X2 a b) (m2 a b)) true kL=some (false,l'):=by
  unfold yY EB;rw[gK _ (show kL.length < _ by decide) (show kL.length<n by show 2<n; omega),ah,show gv kL=kL from rfl]
  dsimp only
  rw[Bool.not_true,Bool.false_and,ah]
  dsimp only
  unfold B2;cases s with
  | false =>
   obtain⟨l1,g1,g2⟩:=tF n (fl (X2 a b) (m2 a b)) kL (by omega) (show 2≤1000000 by decide) (by show _+2+4<n; omega)
   rw[show(false == false)=true from rfl,bm,g1,ah]
   obtain⟨b2,l2,g3,_,g4⟩:=fe n false l1 (by have:kL.length=2:=rfl; omega) (by have:kL.length=2:=rfl; omega)
   rw[g3,ah]
   dsimp only
   rw[g4 rfl];exact⟨l2,rfl⟩
  | true =>
   rw[show(true == false)=false from rfl,bu]
   rcases DR (n:=n) (c:=0) (d:=2147483648) (by omega) ha hb (by decide) (by decide) (by have:=hs rfl; omega) with⟨r,g1,g2⟩|⟨g1,g2⟩
   ·rw[show j8 n (fl (X2 a b) (m2 a b)) kL=some r from g1,ah,aJ (by omega)]
    obtain⟨l1,g3,g4⟩:=lI n kL (fl (X2 a b) (m2 a b)) (show 2≤1073741824 by decide) (show 2<n by omega)
    obtain⟨b2,l2,g5,_,g6⟩:=fe n false l1 (by have:kL.length=2:=rfl; omega) (by have:kL.length=2:=rfl; omega)
    rw[g3,ah,g5,ah]
    dsimp only
    rw[g6 rfl];exact⟨l2,rfl⟩
   ·rw[show j8 n (fl (X2 a b) (m2 a b)) kL=some 0 from g1,ah,aL (by decide),show fl (X2 a b) (m2 a b)=kL from g2,Hr (by omega),ah,gK _ (by decide) (show 0<n by omega),ah]
    exact⟨[],rfl⟩
 obtain⟨l',hk⟩:=key;unfold qF;rw[hk,ah]
 dsimp only
 rw[bu]
 by_cases h0:0<(l'.length:Int)
 ·rw[aL h0]; exact⟨1,rfl,by decide⟩
 ·rw[aJ h0]; exact⟨0,rfl,by decide⟩
theorem Hm (hn:100<n) (ha:a<4294967296) (hb:b<4294967296) (s:Bool) (hs:s=false→a+b*4294967296≤9223372036854775807):∃r,qF n s (fl (X2 a b) (m2 a b)) false jP=some r∧¬0<r:=by
 have hm:=Dr a b;have hlen:(fl (X2 a b) (m2 a b)).length≤2:=by rw[cQ]; exact hm
 have key:∃l',yY n s (fl (X2 a b) (m2 a b)) false jP=some (decide (0<(l'.length:Int)),l'):=by
  unfold yY EB;rw[gK _ (show jP.length < _ by decide) (show jP.length<n by show 2<n; omega),ah,show gv jP=jP from rfl]
  dsimp only
  rw[show(!false && decide (0<(jP.length:Int)))=true from rfl,ah]
  dsimp only
  unfold B2;cases s with
  | true =>
   obtain⟨l1,g1,g2⟩:=tF n (fl (X2 a b) (m2 a b)) jP (by omega) (show 2≤1000000 by decide) (by show _+2+4<n; omega)
   rw[show(true == true)=true from rfl,bm,g1,ah,gK _ (by have:jP.length=2:=rfl; omega) (by have:jP.length=2:=rfl; omega),ah]
   exact⟨gv l1,rfl⟩
  | false =>
   rw[show(false == true)=false from rfl,bu]
   rcases DR (n:=n) (c:=4294967295) (d:=2147483647) (by omega) ha hb (by decide) (by decide) (by have:=hs rfl; omega) with⟨r,g1,g2⟩|⟨g1,g2⟩
   ·rw[show j8 n (fl (X2 a b) (m2 a b)) jP=some r from g1,ah,aJ (by omega)]
    obtain⟨l1,g3,g4⟩:=lI n jP (fl (X2 a b) (m2 a b)) (show 2≤1073741824 by decide) (show 2<n by omega)
    rw[g3,ah,gK _ (by have:jP.length=2:=rfl; omega) (by have:jP.length=2:=rfl; omega),ah]
    exact⟨gv l1,rfl⟩
   ·rw[show j8 n (fl (X2 a b) (m2 a b)) jP=some 0 from g1,ah,aL (by decide),show fl (X2 a b) (m2 a b)=jP from g2,FO (by omega),ah,gK _ (by decide) (show 0<n by omega),ah]
    exact⟨[],rfl⟩
 obtain⟨l',hk⟩:=key;unfold qF;rw[hk,ah]
 dsimp only
 by_cases h0:0<(l'.length:Int)
 ·rw[aL h0]; exact⟨-1,rfl,by decide⟩
 ·rw[aJ h0,aJ h0]; exact⟨0,rfl,by decide⟩
theorem NH (hn:40<n) (ha:a<4294967296) (hb:b<4294967296):bE (lA n (fl (X2 a b) (m2 a b))) n (0,IntKind.wrap .i64 (((fl (X2 a b) (m2 a b)).length:Int)-1))=some (a+b*4294967296):=by
 obtain⟨m,rfl⟩:∃m,n=m+3:=⟨n-3,by omega⟩
 have ea:ui .u64 ((a:Nat):Int)=a:=by
  show(((a:Nat):Int)%((2 ^ 64:Nat):Int)).toNat=a
  omega
 have eb:ui .u64 ((b:Nat):Int)=b:=by
  show(((b:Nat):Int)%((2 ^ 64:Nat):Int)).toNat=b
  omega
 by_cases h:b=0
 ·subst h
  by_cases h0:a=0
  ·subst h0;have e:fl (X2 0 0) (m2 0 0) = []:=rfl;have s0:lA (m+3) [] (0,-1)=some (.inr 0):=rfl;rw[e];exact aN s0
  ·have e:fl (X2 a 0) (m2 a 0) = [(a:Int)]:=by unfold m2; rw[if_pos rfl,if_neg h0]; rfl
   have s0:lA (m+3) [(a:Int)] (0,0)=some (.inl (a,-1)):=by
    show(some (Sum.inl (uw .u64 (uw .u64 (0*4294967296)+ui .u64 ((a:Nat):Int)),(-1:Int))):Option ((Nat × Int) ⊕ Nat))=_
    rw[ea,Nat.zero_mul,jX (a:=0) (by decide),Nat.zero_add,jX (by omega)]
   have s1:lA (m+3) [(a:Int)] (a,-1)=some (.inr a):=rfl;rw[e]
   show bE _ _ (0,0)=_
   rw[aA s0,aN s1,Nat.zero_mul,Nat.add_zero]
 ·have e:fl (X2 a b) (m2 a b) = [(a:Int),(b:Int)]:=by unfold m2; rw[if_neg h]; rfl
  have s0:lA (m+3) [(a:Int),(b:Int)] (0,1)=some (.inl (b,0)):=by
   show(some (Sum.inl (uw .u64 (uw .u64 (0*4294967296)+ui .u64 ((b:Nat):Int)),(0:Int))):Option ((Nat × Int) ⊕ Nat))=_
   rw[eb,Nat.zero_mul,jX (a:=0) (by decide),Nat.zero_add,jX (by omega)]
  have s1:lA (m+3) [(a:Int),(b:Int)] (b,0)=some (.inl (a+b*4294967296,-1)):=by
   show(some (Sum.inl (uw .u64 (uw .u64 (b*4294967296)+ui .u64 ((a:Nat):Int)),(-1:Int))):Option ((Nat × Int) ⊕ Nat))=_
   rw[ea,jX (a:=b*4294967296) (by omega),jX (by omega),Nat.add_comm]
  have s2:lA (m+3) [(a:Int),(b:Int)] (a+b*4294967296,-1)=some (.inr (a+b*4294967296)):=rfl;rw[e]
  show bE _ _ (0,1)=_
  rw[aA s0,aA s1,aN s2]
theorem NW (hn:100<n) (h1 : -9223372036854775808≤k) (h2:k<9223372036854775808) (hv:k.natAbs=a+b*4294967296) (ha:a<4294967296) (hb:b<4294967296) (s:Bool) (hs:s=decide (k<0)):Fk n (fw (Yk s a b) 0) (fw (Yk s a b) 1) (fw (Yk s a b) 2) (fw (Yk s a b) 3) (fw (Yk s a b) 4) (fw (Yk s a b) 5) (fw (Yk s a b) 6) (fw (Yk s a b) 7)=some (k,0):=by
 have hst:s=true→k<0:=fun h=>of_decide_eq_true (hs.symm.trans h);have hsf:s=false→¬k<0:=fun h=>of_decide_eq_false (hs.symm.trans h);have c1:A3 n (-9223372036854775808)=some (true,kL):=B9 (a:=0) (b:=2147483648) (by omega) (by decide) (by decide) (by decide) (by decide) (by decide)
 have c2:A3 n 9223372036854775807=some (false,jP):=B9 (a:=4294967295) (b:=2147483647) (by omega) (by decide) (by decide) (by decide) (by decide) (by decide)
 obtain⟨r1,g1,g2⟩:=F9 hn ha hb s (fun h=>by have:=hst h; omega)
 obtain⟨r2,g3,g4⟩:=Hm hn ha hb s (fun h=>by have:=hsf h; omega)
 unfold Fk;rw[Oh (by omega) ha hb s (fun h=>by have:=hst h; omega),ah]
 dsimp only
 unfold Nl;rw[c1,ah]
 dsimp only
 rw[g1,ah,aJ g2,c2,ah]
 dsimp only
 rw[g3,ah,decide_eq_false g4,ah,bu,NH (by omega) ha hb,ah]
 have hw:∀y:Nat,y<18446744073709551616→IntKind.wrap .i64 ((y:Nat):Int)=if y<9223372036854775808 then(y:Int) else(y:Int)-18446744073709551616:=fun y hy=>by
  have e:((2:Int) ^ (64:Nat))=18446744073709551616:=by decide
  have e2:((2:Int) ^ (63:Nat))=9223372036854775808:=by decide
  simp only[IntKind.wrap,IntKind.bits,IntKind.signed,Bool.true_and,e,e2]
  split<;>simp_all<;>omega
 cases s with
 | false =>
  have:=hsf rfl;rw[bu,ah,ah]
  dsimp only
  rw[hw _ (by omega),if_pos (by omega)]
  congr 2; omega
 | true =>
  have:=hst rfl;have hu:Al .u64 (a+b*4294967296)=18446744073709551616-(a+b*4294967296):=by
   show(18446744073709551616-(a+b*4294967296)%18446744073709551616)%18446744073709551616=_
   omega
  rw[bm,ah,ah,hu]
  dsimp only
  rw[hw _ (by omega),if_neg (by omega)]
  congr 2; omega
theorem Db (hn:40<n) (s:Bool) {v:Nat} (hs:s=true→v≠0):kC n s [v,0,0,0,0,0,0,0]=some (s,ul v):=by
 obtain⟨m,rfl⟩:∃m,n=m+20:=⟨n-20,by omega⟩
 by_cases h:v=0
 ·subst h;cases s with
  | false=>rfl
  | true=>exact absurd rfl (hs rfl)
 ·have st:eO (m+20) [v,0,0,0,0,0,0,0] 1=some (.inr 1):=by
   show ob (ob (some (decide (v=0))) fun v66=>some v66) _=_
   rw[decide_eq_false h]; rfl
  have s8:eO (m+20) [v,0,0,0,0,0,0,0] 8=some (.inl 7):=rfl;have s7:eO (m+20) [v,0,0,0,0,0,0,0] 7=some (.inl 6):=rfl;have s6:eO (m+20) [v,0,0,0,0,0,0,0] 6=some (.inl 5):=rfl;have s5:eO (m+20) [v,0,0,0,0,0,0,0] 5=some (.inl 4):=rfl;have s4:eO (m+20) [v,0,0,0,0,0,0,0] 4=some (.inl 3):=rfl;have s3:eO (m+20) [v,0,0,0,0,0,0,0] 3=some (.inl 2):=rfl;have s2:eO (m+20) [v,0,0,0,0,0,0,0] 2=some (.inl 1):=rfl;unfold kC;rw[show(([v,0,0,0,0,0,0,0]:List Nat).length:Int)=8 from rfl,aA s8,aA s7,aA s6,aA s5,aA s4,aA s3,aA s2,aN st,ah,Bz h]
  cases s<;>rfl
theorem JO (hn:40<n) {v:Nat} (h0:v≠0) (h:v<18446744073709551616):Fa n 0 0 0 0 0 0 0 0 (18446744073709551616-v) 18446744073709551615 18446744073709551615 18446744073709551615 18446744073709551615 18446744073709551615 18446744073709551615 18446744073709551615=some (v,0,0,0,0,0,0,0,1):=by
 obtain⟨m,rfl⟩:∃m,n=m+20:=⟨n-20,by omega⟩
 let T:List Nat:=[18446744073709551616-v,18446744073709551615,18446744073709551615,18446744073709551615,18446744073709551615,18446744073709551615,18446744073709551615,18446744073709551615]
 have b0:gr (m+20) ([0,0,0,0,0,0,0,0],T,0,0)=some (.inl ([v,0,0,0,0,0,0,0],T,1,1)):=by
  show(some (Sum.inl ([(0+18446744073709551616-(18446744073709551616-v)-0)%18446744073709551616,0,0,0,0,0,0,0],T,(if 0<(18446744073709551616-v)+0 then 1 else 0),(1:Int))):Option ((List Nat × List Nat × Nat × Int) ⊕ (List Nat × Nat)))=_
  rw[if_pos (by omega),show(0+18446744073709551616-(18446744073709551616-v)-0)%18446744073709551616=v by omega]
 have b1:gr (m+20) ([v,0,0,0,0,0,0,0],T,1,1)=some (.inl ([v,0,0,0,0,0,0,0],T,1,2)):=rfl;have b2:gr (m+20) ([v,0,0,0,0,0,0,0],T,1,2)=some (.inl ([v,0,0,0,0,0,0,0],T,1,3)):=rfl;have b3:gr (m+20) ([v,0,0,0,0,0,0,0],T,1,3)=some (.inl ([v,0,0,0,0,0,0,0],T,1,4)):=rfl;have b4:gr (m+20) ([v,0,0,0,0,0,0,0],T,1,4)=some (.inl ([v,0,0,0,0,0,0,0],T,1,5)):=rfl;have b5:gr (m+20) ([v,0,0,0,0,0,0,0],T,1,5)=some (.inl ([v,0,0,0,0,0,0,0],T,1,6)):=rfl;have b6:gr (m+20) ([v,0,0,0,0,0,0,0],T,1,6)=some (.inl ([v,0,0,0,0,0,0,0],T,1,7)):=rfl;have b7:gr (m+20) ([v,0,0,0,0,0,0,0],T,1,7)=some (.inl ([v,0,0,0,0,0,0,0],T,1,8)):=rfl;have b8:gr (m+20) ([v,0,0,0,0,0,0,0],T,1,8)=some (.inr ([v,0,0,0,0,0,0,0],1)):=rfl;unfold Fa
 show ob (bE (gr (m+20)) (m+20) (([0,0,0,0,0,0,0,0]:List Nat),T,0,0)) _=_
 rw[aA b0,aA b1,aA b2,aA b3,aA b4,aA b5,aA b6,aA b7,aN b8]; rfl
theorem MZ (hn:100<n) (h1 : -9223372036854775808≤k) (h2:k<9223372036854775808) (hv:k.natAbs=a+b*4294967296) (ha:a<4294967296) (hb:b<4294967296) (s:Bool) (hs:s=decide (k<0)):JG n (fw (Yk s a b) 0) (fw (Yk s a b) 1) (fw (Yk s a b) 2) (fw (Yk s a b) 3) (fw (Yk s a b) 4) (fw (Yk s a b) 5) (fw (Yk s a b) 6) (fw (Yk s a b) 7)=some (s,ul k.natAbs)∧Lg k s (ul k.natAbs):=by
 have hst:s=true→k<0:=fun h=>of_decide_eq_true (hs.symm.trans h);have hsf:s=false→¬k<0:=fun h=>of_decide_eq_false (hs.symm.trans h);cases s with
 | false =>
  have:=hsf rfl;have e0:fw (Yk false a b) 0=k.natAbs:=by rw[hv]; rfl
  refine⟨?_,?_⟩
  ·rw[e0,lQ (j:=1) (by omega),lQ (j:=2) (by omega),lQ (j:=3) (by omega),lQ (j:=4) (by omega),lQ (j:=5) (by omega),lQ (j:=6) (by omega),lQ (j:=7) (by omega)]
   unfold JG PF;rw[show(bH .u64 0 63)=0 from rfl,aJ (by decide),ah]
   dsimp only
   rw[ah]
   dsimp only
   rw[show gY ((([]:List Nat)++[k.natAbs,0,0,0,0,0,0,0]).length)=true from rfl,az]
   show ob (kC n (decide (0=1)) [k.natAbs,0,0,0,0,0,0,0]) _=_
   rw[show decide ((0:Nat)=1)=false from rfl,Db (by omega) false (fun h=>by cases h),ah]
  ·have:=Qj (v:=k.natAbs) (by omega)
   rwa[show((k.natAbs:Nat):Int)=k by omega] at this
 | true =>
  have hk:=hst rfl;have h0:a+b≠0:=by omega
  have e0:fw (Yk true a b) 0=18446744073709551616-k.natAbs:=by rw[hv]; exact Pz ha hb h0
  have ej:∀j,1≤j→fw (Yk true a b) j=18446744073709551615:=fun j hj=>uS h0 hj;refine⟨?_,?_⟩
  ·rw[e0,ej 1 (by omega),ej 2 (by omega),ej 3 (by omega),ej 4 (by omega),ej 5 (by omega),ej 6 (by omega),ej 7 (by omega)]
   unfold JG PF;rw[show(bH .u64 18446744073709551615 63)=1 from by decide,aL rfl,JO (by omega) (by omega) (by omega),ah]
   dsimp only
   rw[ah]
   dsimp only
   rw[ah]
   dsimp only
   rw[show gY ((([]:List Nat)++[k.natAbs,0,0,0,0,0,0,0]).length)=true from rfl,az]
   show ob (kC n (decide (1=1)) [k.natAbs,0,0,0,0,0,0,0]) _=_
   rw[show decide ((1:Nat)=1)=true from rfl,Db (by omega) true (fun _=>by omega),ah]
  ·have hl:=Lg.small (x:=k.natAbs) (by omega) (by omega) true
   rw[Bz (by omega)]
   rwa[show wJ true k.natAbs=k by unfold wJ; rw[if_pos rfl]; omega] at hl
end
theorem GG {n:Nat} {k:Int} (hn:100<n) (h1 : -9223372036854775808≤k) (h2:k<9223372036854775808):∃w1 w2 w3 w4 w5 w6 w7 w8 s l,xY n k=some (w1,w2,w3,w4,w5,w6,w7,w8)∧JG n w1 w2 w3 w4 w5 w6 w7 w8=some (s,l)∧Lg k s l∧Fk n w1 w2 w3 w4 w5 w6 w7 w8=some (k,0):=by
 have hv:k.natAbs=k.natAbs%4294967296+k.natAbs/4294967296*4294967296:=by omega
 have ha:k.natAbs%4294967296<4294967296:=by omega
 have hb:k.natAbs/4294967296<4294967296:=by omega
 obtain⟨g1,g2⟩:=MZ hn h1 h2 hv ha hb _ rfl;exact⟨_,_,_,_,_,_,_,_,_,_,OQ (by omega) h1 h2 hv ha hb,g1,g2,NW hn h1 h2 hv ha hb _ rfl⟩
theorem Ji {n x1 x2 x3 x4 x5 x6 x7 x8:Nat} {r e:Int} (h:Fk n x1 x2 x3 x4 x5 x6 x7 x8=some (r,e)) : -9223372036854775808≤r∧r<9223372036854775808:=by
 unfold Fk at h;obtain⟨⟨r1,l1⟩,_,h⟩:=J h;obtain⟨⟨r2,r3⟩,h1,h⟩:=J h;cases h;unfold Nl at h1;obtain⟨v,_,h1⟩:=J h1;rcases aa h1 with⟨_,h1⟩|⟨_,h1⟩
 ·cases h1;omega
 ·obtain⟨v2,_,h1⟩:=J h1;obtain⟨v3,_,h1⟩:=J h1;cases h1;exact kW _
theorem sj {N:Int} {es:List (Int × Int)} {x n:Nat} (l:List Int) (hx:x<2 ^ 64) (hl:es.length≤200) (hn:1073741825<n) (hr:kB N es=true→rk x 64≤9) (hb:l.length≤1000) :
  ∃a1 a2 a3 a4 a5 a6 a7 a8 a9 c,OC n N es x l=some (a1,a2,a3,a4,a5,a6,a7,a8,a9)∧OV n N es x l=some (a1,a2,a3,a4,a5,a6,a7,a8,a9)∧Mx n N es x l=some c∧LN n N es x l=some c:=by
 obtain⟨⟨a1,a2,a3,a4,a5,a6,a7,a8,a9⟩,g1,g2⟩:=HH l hx hl hn hr hb;exact⟨a1,a2,a3,a4,a5,a6,a7,a8,a9,_,g1,g2,Ft n N es x l hx (by omega) (by omega) (by omega) (by omega) (by omega),HZ n N es x l hx (by omega) (by omega) (by omega) (by omega) (by omega)⟩
section
variable {n : Nat} {N : Int} {es : List (Int × Int)} {x : Nat}
theorem Kg (hx:x<2 ^ 64) (hl:es.length≤200) (hn:1073741825<n) (hr:kB N es=true→rk x 64≤9) (raw l1 l2 l3 l4:List Int) (x17:Nat) (y:Int) (l5:List Int)
  (hall:∀l ∈ [((raw.drop (0:Int).toNat).take ((mi (raw.length:Int) (9:Int):Int).toNat-(0:Int).toNat)),l1,l2,l3,(l4.set ((Int.tmod (IntKind.wrap .i64 ((x17:Nat):Int)) (l4.length:Int)).toNat) (IntKind.wrap .i64 (y+1))),((l5.drop (1:Int).toNat).take (((l5.length:Int):Int).toNat-(1:Int).toNat))],l.length≤1000) :
  bE (BX n raw l1 l2 l3 l4 x17 y l5 N es x) n 0=some (.inr ()):=by
 have st:∀i:Nat,i<6→BX n raw l1 l2 l3 l4 x17 y l5 N es x ((i:Nat):Int)=some (.inl ((i+1:Nat):Int)):=fun i hi=>by
  obtain⟨l,hk⟩:∃l,([((raw.drop (0:Int).toNat).take ((mi (raw.length:Int) (9:Int):Int).toNat-(0:Int).toNat)),l1,l2,l3,(l4.set ((Int.tmod (IntKind.wrap .i64 ((x17:Nat):Int)) (l4.length:Int)).toNat) (IntKind.wrap .i64 (y+1))),((l5.drop (1:Int).toNat).take (((l5.length:Int):Int).toNat-(1:Int).toNat))]:List (List Int))[i]? = some l:=⟨_,List.getElem?_eq_getElem hi⟩;obtain⟨a1,a2,a3,a4,a5,a6,a7,a8,a9,c,g1,g2,g3,g4⟩:=sj l hx hl hn hr (hall l (List.mem_of_getElem? hk));unfold BX;rw[aL (by omega),al hi,az,Int.toNat_natCast i,hk,ah,g1,ah]
  dsimp only
  rw[g2,ah]
  dsimp only
  rw[g3,ah,g4,ah];simp only[decide_true,Bool.and_true,Bool.not_true,bu,ah];rw[aD (by omega)]
 have s0:=st 0 (by omega)
 have s1:=st 1 (by omega)
 have s2:=st 2 (by omega)
 have s3:=st 3 (by omega)
 have s4:=st 4 (by omega)
 have s5:=st 5 (by omega)
 have s6:BX n raw l1 l2 l3 l4 x17 y l5 N es x ((6:Nat):Int)=some (.inr (.inr ())):=rfl;clear st;obtain⟨k,hk⟩:∃k,n=k+7:=⟨n-7,by omega⟩
 generalize BX n raw l1 l2 l3 l4 x17 y l5 N es x=B at *;subst hk;rw[show(0:Int)=((0:Nat):Int) from rfl,aA s0,aA s1,aA s2,aA s3,aA s4,aA s5,aN s6]
theorem Kb (hx:x<2 ^ 64) (hl:es.length≤200) (hn:1073741825<n) (hr:kB N es=true→rk x 64≤9) (raw l1 l2 l3:List Int)
  (hall:∀l ∈ [((raw.drop (0:Int).toNat).take ((mi (raw.length:Int) (9:Int):Int).toNat-(0:Int).toNat)),l1,l2,l3],l.length≤1000) :
  bE (BS n raw l1 l2 l3 N es x) n 0=some (.inr ()):=by
 have st:∀i:Nat,i<4→BS n raw l1 l2 l3 N es x ((i:Nat):Int)=some (.inl ((i+1:Nat):Int)):=fun i hi=>by
  obtain⟨l,hk⟩:∃l,([((raw.drop (0:Int).toNat).take ((mi (raw.length:Int) (9:Int):Int).toNat-(0:Int).toNat)),l1,l2,l3]:List (List Int))[i]? = some l:=⟨_,List.getElem?_eq_getElem hi⟩;obtain⟨a1,a2,a3,a4,a5,a6,a7,a8,a9,c,g1,g2,g3,g4⟩:=sj l hx hl hn hr (hall l (List.mem_of_getElem? hk));unfold BS;rw[aL (by omega),al hi,az,Int.toNat_natCast i,hk,ah,g1,ah]
  dsimp only
  rw[g2,ah]
  dsimp only
  rw[g3,ah,g4,ah];simp only[decide_true,Bool.and_true,Bool.not_true,bu,ah];rw[aD (by omega)]
 have s0:=st 0 (by omega)
 have s1:=st 1 (by omega)
 have s2:=st 2 (by omega)
 have s3:=st 3 (by omega)
 have s4:BS n raw l1 l2 l3 N es x ((4:Nat):Int)=some (.inr (.inr ())):=rfl;clear st;obtain⟨k,hk⟩:∃k,n=k+5:=⟨n-5,by omega⟩
 generalize BS n raw l1 l2 l3 N es x=B at *;subst hk;rw[show(0:Int)=((0:Nat):Int) from rfl,aA s0,aA s1,aA s2,aA s3,aN s4]
theorem Dt (raw:List Int):((raw.drop (0:Int).toNat).take ((mi (raw.length:Int) (9:Int):Int).toNat-(0:Int).toNat)).length≤1000:=by
 have h9:(mi (raw.length:Int) (9:Int):Int)≤9:=by unfold mi; split<;>omega
 rw[List.length_take];generalize (mi (raw.length:Int) (9:Int):Int)=z at h9;have h0:(0:Int).toNat=0:=rfl;omega
theorem pU (hx:x<2 ^ 64) (hl:es.length≤200) (hn:1073741825<n) (hr:kB N es=true→rk x 64≤9) {k:Int} (h1 : -9223372036854775808≤k) (h2:k<9223372036854775808) :
  ∃w1 w2 w3 w4 w5 w6 w7 w8 l e,xY n k=some (w1,w2,w3,w4,w5,w6,w7,w8)∧Mo n N es x w1 w2 w3 w4 w5 w6 w7 w8=some (l,e)∧LK n N es x w1 w2 w3 w4 w5 w6 w7 w8=some (l,e)∧l.length≤200:=by
 obtain⟨w1,w2,w3,w4,w5,w6,w7,w8,s,q,g1,g2,g3,g4⟩:=GG (n:=n) (by omega) h1 h2
 obtain⟨⟨l,e⟩,g5,g6,g7⟩:=GU (n:=n) hx hl (by omega) hr g2 g3 (by omega) g4
 refine⟨w1,w2,w3,w4,w5,w6,w7,w8,l,e,g1,g5,g6,?_⟩;rcases g7 with g7|⟨g7,_⟩
 ·rw[show l = [] from g7]; exact Nat.zero_le _
 ·have:=sQ (show l ∈ gO es x from g7)
  omega
theorem E8 (N1:Int) (e1:List (Int × Int)) (s1:Nat) (N2:Int) (s2:Nat) (N3:Int) (e3:List (Int × Int)) (s3:Nat) (k:Int) (raw:List Int) (x17:Nat) (i:Nat) (hi:i<3) (h1 : -9223372036854775808≤k) (h2:k<9223372036854775808) (h17:x17<65536)
  (hall:∀N es s,(([(N1,e1,s1),(N2,e1,s2),(N3,e3,s3)]:List (Int × List (Int × Int) × Nat))[i]? = some (N,es,s))→es.length≤200∧s<2 ^ 64∧(kB N es=true→rk s 64≤9)) (hn:1073741825<n):AT n N1 e1 s1 N2 s2 N3 e3 s3 k raw x17 (i:Int)=some (.inl ((i+1:Nat):Int)):=by
 have key:∃N es s,(([(N1,e1,s1),(N2,e1,s2),(N3,e3,s3)]:List (Int × List (Int × Int) × Nat))[i]? = some (N,es,s)):=by
  have:i=0∨i=1∨i=2:=by omega
  rcases this with rfl|rfl|rfl
  ·exact⟨_,_,_,rfl⟩
  ·exact⟨_,_,_,rfl⟩
  ·exact⟨_,_,_,rfl⟩
 obtain⟨N,es,x,hk⟩:=key;obtain⟨hl,hx,hr⟩:=hall N es x hk;obtain⟨r1,r2,r3,r4,r5,r6,r7,r8,r9,g1⟩:=Kl n N es x hx hl (by omega) hr
 obtain⟨r,er,g2⟩:=JN n r1 r2 r3 r4 r5 r6 r7 r8 (by omega)
 obtain⟨hr1,hr2⟩:=Ji g2;have hma:0<ui .u64 (ma r (1:Int)):=by
  show 0<((ma r (1:Int))%18446744073709551616).toNat
  unfold ma
  split<;>omega
 unfold AT;rw[aL (by omega),al hi,az,Int.toNat_natCast,hk,ah]
 dsimp only
 rw[g1,ah]
 dsimp only
 rw[g2,ah]
 dsimp only
 rw[cy hma,ah];obtain⟨hy1,hy2⟩:=kW ((((ui .u64 k)%(ui .u64 (ma r (1:Int))):Nat):Int));generalize IntKind.wrap .i64 ((((ui .u64 k)%(ui .u64 (ma r (1:Int))):Nat):Int))=y at hy1 hy2;obtain⟨p1,p2,p3,p4,p5,p6,p7,p8,A,ea,a1,a2,a3,a4⟩:=pU (n:=n) hx hl hn hr h1 h2;obtain⟨q1,q2,q3,q4,q5,q6,q7,q8,B,eb,b1,b2,b3,b4⟩:=pU (n:=n) hx hl hn hr hy1 hy2;obtain⟨t1,t2,t3,t4,t5,t6,t7,t8,C,ec,c1,c2,c3,c4⟩:=pU (n:=n) hx hl hn hr hr1 hr2;rw[a1,ah]
 dsimp only
 rw[a2,ah]
 dsimp only
 rw[ah]
 dsimp only
 rw[a3,ah]
 dsimp only
 rw[tu n A (by omega) (by omega),ah,Bool.not_true,bu,decide_eq_true (rfl:ea=ea),Bool.not_true,ah,bu]
 rw[b1,ah]
 dsimp only
 rw[b2,ah]
 dsimp only
 rw[ah]
 dsimp only
 rw[b3,ah]
 dsimp only
 rw[tu n B (by omega) (by omega),ah,Bool.not_true,bu,decide_eq_true (rfl:eb=eb),Bool.not_true,ah,bu]
 rw[c1,ah]
 dsimp only
 rw[c2,ah]
 dsimp only
 rw[ah]
 dsimp only
 rw[c3,ah]
 dsimp only
 rw[tu n C (by omega) (by omega),ah,Bool.not_true,bu,decide_eq_true (rfl:ec=ec),Bool.not_true,ah,bu]
 rw[show bz 2 4=true from rfl,az,show ∀P:List Int,(([P,A,B,C]:List (List Int))[(2:Int).toNat]?)=some B from fun _=>rfl,ah]
 by_cases hB:0<(B.length:Int)
 ·have hw:IntKind.wrap .i64 ((x17:Nat):Int)=(x17:Int):=aE (by omega) (by omega)
  have hin:0≤Int.tmod (IntKind.wrap .i64 ((x17:Nat):Int)) (B.length:Int)∧(Int.tmod (IntKind.wrap .i64 ((x17:Nat):Int)) (B.length:Int)).toNat<B.length:=by
   rw[hw];have g1:=Int.tmod_nonneg (B.length:Int) (show(0:Int)≤(x17:Int) by omega)
   have g2:=Int.tmod_lt_of_pos (x17:Int) hB;omega
  have hin':bz (Int.tmod (IntKind.wrap .i64 ((x17:Nat):Int)) (B.length:Int)) B.length=true:=decide_eq_true hin;obtain⟨z,hz⟩:∃z,B[(Int.tmod (IntKind.wrap .i64 ((x17:Nat):Int)) (B.length:Int)).toNat]? = some z:=⟨_,List.getElem?_eq_getElem hin.2⟩;have hok:okB 1 (B.length:Int) B.length=true:=decide_eq_true ⟨by omega,by omega,by omega⟩
  have h19:PY n B=some B:=by unfold PY; rw[cq (by omega),az]
  rw[aL hB,h19,ah,cy (by omega),hin',az,hz,ah,az,hok,az,Kg hx hl hn hr raw A B C B x17 z B (fun l h=>by
   simp only[List.mem_cons,List.not_mem_nil,or_false] at h;rcases h with rfl|rfl|rfl|rfl|rfl|rfl
   ·exact Dt raw
   ·omega
   ·omega
   ·omega
   ·rw[List.length_set]; omega
   ·rw[List.length_take,List.length_drop]; omega),ah]
  dsimp only
  rw[ah]
  dsimp only
  rw[aD (by omega)]
 ·rw[aJ hB,Kb hx hl hn hr raw A B C (fun l h=>by
   simp only[List.mem_cons,List.not_mem_nil,or_false] at h;rcases h with rfl|rfl|rfl|rfl
   ·exact Dt raw
   ·omega
   ·omega
   ·omega),ah]
  dsimp only
  rw[ah]
  dsimp only
  rw[aD (by omega)]
end
theorem Jp (n:Nat) (N1:Int) (e1:List (Int × Int)) (s1:Nat) (N2:Int) (s2:Nat) (N3:Int) (e3:List (Int × Int)) (s3:Nat) (k:Int) (raw:List Int) (x17:Nat) (h1 : -9223372036854775808≤k) (h2:k<9223372036854775808) (h17:x17<65536)
  (hall:∀N es s,(N,es,s) ∈ ([(N1,e1,s1),(N2,e1,s2),(N3,e3,s3)]:List (Int × List (Int × Int) × Nat))→es.length≤200∧s<2 ^ 64∧(kB N es=true→rk s 64≤9)) (hn:1073741825<n):bE (AT n N1 e1 s1 N2 s2 N3 e3 s3 k raw x17) n 0=some (.inr ()):=by
 have st:=fun i hi=>E8 (n:=n) N1 e1 s1 N2 s2 N3 e3 s3 k raw x17 i hi h1 h2 h17 (fun N es s h=>hall N es s (List.mem_of_getElem? h)) hn;have t0:=st 0 (by omega)
 have t1:=st 1 (by omega)
 have t2:=st 2 (by omega)
 have t3:AT n N1 e1 s1 N2 s2 N3 e3 s3 k raw x17 ((3:Nat):Int)=some (.inr (.inr ())):=rfl;clear st;obtain⟨m,hk⟩:∃m,n=m+4:=⟨n-4,by omega⟩
 generalize AT n N1 e1 s1 N2 s2 N3 e3 s3 k raw x17=B at *;subst hk;rw[show(0:Int)=((0:Nat):Int) from rfl,aA t0,aA t1,aA t2,aN t3]
theorem Jk (n x1 x2 x6:Nat) (l2:List (Nat × Nat)) (x4 x7:Nat) (x8:Int) (x9:Nat) (x3:Int) (l1:List Int) (x5:Nat) (h0:x4<2 ^ 64) (h1 : -9223372036854775808≤x3) (h2:x3<9223372036854775808) (h3:x5<65536) (hn:1073741825<n):F4 n x1 x2 x6 l2 x4 x7 x8 x9 x3 l1 x5=some true:=by
 obtain⟨N,es,g1,hok⟩:=MD n x1 x2 x6 l2 (by omega)
 obtain⟨M,rfl,hO⟩:=gH hok;obtain⟨w1,g2,a0,a1⟩:=BD n M x4 es hO.le h0 (by omega)
 obtain⟨w2,g3,b0,b1⟩:=BD n M 18446744073709551615 es hO.le (by decide) (by omega)
 obtain⟨N',es',x',g4,c1,c0⟩:=OA n x7 x8 x9 (M:Int) es w1 hO.len a0;have key:∃w0,(ob (ob (ob (Mj n N' es') fun r0=>br (decide (r0=0)) (ob (JE n x') fun r1=>some (decide (9<r1))) (some false)) fun v0=>br (v0) (ob (LV n N' es' x') fun r2=>some r2) (some x')) fun v1=>some ((M:Int),es,w1,(M:Int),w2,N',es',v1))=some ((M:Int),es,w1,(M:Int),w2,N',es',w0)∧w0<2 ^ 64∧(kB N' es'=true→rk w0 64≤9):=by
  rw[wL n N' es' (by omega) (by omega),ah]
  unfold DV
  by_cases hk:kB N' es'=true
  ·obtain⟨M',rfl,hO'⟩:=gH hk;rw[if_pos hk,decide_eq_true rfl,bm,nj n x' c0 (by omega),ah,ah]
   by_cases h4:9<rk x' 64
   ·obtain⟨w,g0,d0,d1⟩:=BD n M' x' es' hO'.le c0 (by omega)
    rw[decide_eq_true (show(9:Int)<((rk x' 64:Nat):Int) by omega),bm,g0]
    exact⟨w,rfl,d0,fun _=>d1⟩
   ·rw[decide_eq_false (show ¬(9:Int)<((rk x' 64:Nat):Int) by omega)]
    exact⟨x',rfl,c0,fun _=>by omega⟩
  ·rw[if_neg hk];exact⟨x',rfl,c0,fun h=>absurd h hk⟩
 obtain⟨w0,g0,d0,d1⟩:=key;have hokb:okB 0 (mi (l1.length:Int) (9:Int)) l1.length=true:=by
  refine decide_eq_true ⟨by omega,?_,?_⟩
  ·unfold mi; split<;>omega
  ·unfold mi; split<;>omega
 unfold F4;simp only[F8,ah,Bool.not_true,bu,hokb,az,g1,g2,g3,g4];rw[g0];simp only[ah];rw[Jp n (M:Int) es w1 (M:Int) w2 N' es' w0 x3 l1 x5 h1 h2 h3 (fun N e0 s h=>by
  rcases List.mem_cons.1 h with h|h
  ·cases h; exact⟨hO.len,a0,fun _=>a1⟩
  ·rcases List.mem_cons.1 h with h|h
   ·cases h; exact⟨hO.len,b0,fun _=>b1⟩
   ·rcases List.mem_cons.1 h with h|h
    ·cases h; exact⟨c1,d0,d1⟩
    ·cases h) hn]
 rfl
end Go.Proofs.YtookeaakpiefjaaGreatDoor
end
