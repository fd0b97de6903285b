/- A part of the proof. -/
import Derived.Test.YtookeaakpiefjaaDoorTy5
import Derived.Lib.Mul64
section
namespace Go.Ab.T30
def dl (ρ:Nat→Nat) (e:Nat × Nat) (i:Nat):Int:=(if i=ρ e.1 then 1 else 0)-(if i=ρ e.2 then 1 else 0)
def iT (ρ:Nat→Nat):List (Nat × Nat)→Mt
 | [],_,_=>0
 | e::E,i,j=>dl ρ e i*dl ρ e j+iT ρ E i j
def tw (ρ:Nat→Nat):Mt:=fun i j=>if ρ i=i then 0 else if i=j then 1 else 0
def j6 (ρ:Nat→Nat) (E:List (Nat × Nat)):Mt:=fun i j=>tw ρ i j+iT ρ E i j
def mg (ρ:Nat→Nat) (u v:Nat):Nat→Nat:=fun i=>if ρ i=u then v else ρ i
def p9 (s:Nat):(Nat→Nat)→List (Nat × Nat)→Nat
 | ρ,[]=>if (List.range s).all (fun i=>ρ i != i) then 1 else 0
 | ρ,(a,b)::E=>p9 s ρ E+if ρ a=ρ b then 0 else p9 s (if ρ a=s then mg ρ (ρ b) (ρ a) else mg ρ (ρ a) (ρ b)) E
def wv (u v:Nat):Nat→Int:=fun c=>(if c=u then 1 else 0)-(if c=v then 1 else 0)
section
variable {s : Nat} {ρ : Nat → Nat} {E : List (Nat × Nat)} {u v : Nat}
theorem BP (hi:∀i,ρ (ρ i)=ρ i) (hv:ρ v=v) (huv:u≠v) (i:Nat):mg ρ u v (mg ρ u v i)=mg ρ u v i:=by
 unfold mg
 by_cases h:ρ i=u
 ·rw[if_pos h,hv,if_neg (fun e=>huv e.symm)]
 ·rw[if_neg h,hi,if_neg h]
theorem xo (hr:∃i,i<s∧ρ i=i):cx s (j6 ρ [])=0:=by
 obtain⟨i,h1,h2⟩:=hr;refine FT h1 fun c _=>?_;simp only[j6,iT,tw];rw[if_pos h2]; rfl
theorem yw (hr:∀i,i<s→ρ i≠i):cx s (j6 ρ [])=1:=by
 refine xT fun r c h1 _=>?_;simp only[j6,iT,tw];rw[if_neg (hr r h1),Int.add_zero]
theorem NG (i:Nat) (hiu:i≠u) (hiv:ρ v=v) (huv:u≠v) (a:Nat):(if i=mg ρ u v a then(1:Int) else 0)=(if i=ρ a then 1 else 0)+(if i=v then(if u=ρ a then 1 else 0) else 0):=by
 unfold mg
 by_cases h:ρ a=u
 ·rw[if_pos h,h,if_neg hiu,if_pos rfl,Int.zero_add]
 ·rw[if_neg h];have:¬u=ρ a:=fun e=>h e.symm;rw[if_neg this]
  split<;>split<;>rfl
theorem NY (huv:u≠v) (a:Nat):(if u=mg ρ u v a then(1:Int) else 0)=0:=by
 unfold mg
 by_cases h:ρ a=u
 ·rw[if_pos h,if_neg huv]
 ·rw[if_neg h,if_neg (fun e=>h e.symm)]
theorem J5 (hiv:ρ v=v) (huv:u≠v) {i:Nat} (hiu:i≠u) (e:Nat × Nat):dl (mg ρ u v) e i=dl ρ e i+(if i=v then dl ρ e u else 0):=by
 unfold dl;rw[NG i hiu hiv huv,NG i hiu hiv huv]
 split<;>omega
theorem B4 (huv:u≠v) (e:Nat × Nat):dl (mg ρ u v) e u=0:=by
 unfold dl;rw[NY huv,NY huv]; rfl
theorem Fl (huv:u≠v) (i:Nat):∀E,iT (mg ρ u v) E i u=0
 | []=>rfl
 | e::E=>by
  simp only[iT];rw[B4 huv,Int.mul_zero,Fl huv i E]; rfl
theorem EM (huv:u≠v) (i:Nat):∀E,iT (mg ρ u v) E u i=0
 | []=>rfl
 | e::E=>by
  simp only[iT];rw[B4 huv,Int.zero_mul,EM huv i E]; rfl
theorem GP (hiv:ρ v=v) (huv:u≠v) {i c:Nat} (hiu:i≠u) (hcu:c≠u):∀E,iT (mg ρ u v) E i c=iT ρ E i c+(if i=v then iT ρ E u c else 0)+(if c=v then iT ρ E i u+(if i=v then iT ρ E u u else 0) else 0)
 | []=>by simp only[iT]; split<;>split<;>rfl
 | e::E=>by
  simp only[iT];rw[GP hiv huv hiu hcu E,J5 hiv huv hiu,J5 hiv huv hcu];generalize dl ρ e i=p;generalize dl ρ e c=q;generalize dl ρ e u=r
  by_cases h1:i=v<;>by_cases h2:c=v
  ·simp only[if_pos h1,if_pos h2];rw[Int.mul_add,Int.add_mul,Int.add_mul]; omega
  ·simp only[if_pos h1,if_neg h2,Int.add_zero];rw[Int.add_mul]; omega
  ·simp only[if_neg h1,if_pos h2,Int.add_zero];rw[Int.mul_add]; omega
  ·simp only[if_neg h1,if_neg h2,Int.add_zero]
theorem Am (hi:∀i,ρ (ρ i)=ρ i) (hiv:ρ v=v) (huv:u≠v) {i c:Nat} (hiu:i≠u):tw (mg ρ u v) i c=tw ρ i c:=by
 unfold tw mg
 by_cases h:ρ i=i
 ·rw[if_pos h,h,if_neg hiu,if_pos rfl]
 ·rw[if_neg h]
  by_cases h2:ρ i=u
  ·rw[if_pos h2];have:¬v=i:=fun e=>h (by rw[←e]; exact hiv)
   rw[if_neg this]
  ·rw[if_neg h2,if_neg h]
theorem Gh (hi:∀i,ρ (ρ i)=ρ i) (hus:u<s) (hu:ρ u=u) (hv:ρ v=v) (huv:u≠v) (hvs:v≤s) :
  cx s (fun i j=>j6 ρ E i j+wv u v i*wv u v j)=cx s (j6 ρ E)+cx s (j6 (mg ρ u v) E):=by
 have hwu:wv u v u=1:=by simp only[wv]; rw[if_pos trivial,if_neg huv]; rfl
 have hwi:∀i,i≠u→i≠v→wv u v i=0:=fun i h1 h2=>by simp only[wv]; rw[if_neg h1,if_neg h2]; rfl
 have hwv:wv u v v = -1:=by simp only[wv]; rw[if_neg (fun e=>huv e.symm),if_pos trivial]; rfl
 let R:Mt:=fun i c=>if i=v then j6 ρ E v c+1*j6 ρ E u c else j6 ρ E i c
 have hRu:∀c,R u c=j6 ρ E u c:=fun c=>if_neg huv;have hR:cx s R=cx s (j6 ρ E):=by
  by_cases h:v<s
  ·have:=wJ (n:=s) (A:=j6 ρ E) (r:=v) (k:=u) 1 h hus (fun e=>huv e.symm);rw[←this];refine bD fun r c _ _=>?_
   show(if r=v then _ else _)=upd (j6 ρ E) v _ r c
   rfl
  ·refine bD fun r c hr _=>?_;exact if_neg (by omega)
 have hB:cx s (fun i j=>j6 ρ E i j+wv u v i*wv u v j)=cx s (upd R u fun c=>1*j6 ρ E u c+1*wv u v c):=by
  by_cases h:v<s
  ·have:=wJ (n:=s) (A:=fun i j=>j6 ρ E i j+wv u v i*wv u v j) (r:=v) (k:=u) 1 h hus (fun e=>huv e.symm);rw[←this];refine bD fun r c _ _=>?_;simp only[upd,R]
   by_cases h1:r=v
   ·rw[if_pos h1,if_neg (by omega),if_pos h1,hwu,hwv]; omega
   ·rw[if_neg h1]
    by_cases h2:r=u
    ·subst h2; rw[if_pos rfl,hwu]; omega
    ·rw[if_neg h2,if_neg h1,hwi r h2 h1,Int.zero_mul,Int.add_zero]
  ·refine bD fun r c hr _=>?_;simp only[upd,R]
   by_cases h2:r=u
   ·subst h2; rw[if_pos rfl,hwu]; omega
   ·rw[if_neg h2,if_neg (by omega),hwi r h2 (by omega),Int.zero_mul,Int.add_zero]
 have hL:cx s (upd R u (j6 ρ E u))=cx s (j6 ρ E):=by
  rw[←hR];refine bD fun r c _ _=>?_;simp only[upd]
  split
  ·rename_i h; rw[h]; exact(hRu c).symm
  ·rfl
 rw[hB,jw 1 1 _ _ hus,Int.one_mul,Int.one_mul,hL]
 congr 1
 have h1:=DP (n:=s) (u:=u) (A:=upd R u (wv u v)) hus fun i=>- R i u;rw[←h1];have hC:cx s (fun i c=>if i=u then upd R u (wv u v) u c else upd R u (wv u v) i c + - R i u*upd R u (wv u v) u c)=cx s (upd (j6 (mg ρ u v) E) u fun c=>1*(if c=u then 1 else 0)+(-1)*(if c=v then 1 else 0)):=by
  refine bD fun r c hr hc=>?_;simp only[upd]
  by_cases h2:r=u
  ·rw[if_pos h2,if_pos trivial,if_pos h2];simp only[wv]; omega
  ·rw[if_neg h2,if_neg h2,if_pos trivial,if_neg h2]
   by_cases h3:c=u
   ·subst h3;rw[hwu];have:j6 (mg ρ c v) E r c=0:=by
     simp only[j6];rw[Fl huv,Am hi hv huv h2];unfold tw;rw[if_neg h2]; split<;>rfl
    rw[this]; omega
   ·have e1:wv u v c = - (if c=v then 1 else 0):=by simp only[wv]; rw[if_neg h3]; omega
    rw[e1];simp only[j6];rw[GP hv huv h2 h3,Am hi hv huv h2];have d1:tw ρ u c=0:=by unfold tw; rw[if_pos hu]
    have d2:tw ρ r u=0:=by unfold tw; rw[if_neg h2]; split<;>rfl
    have d3:tw ρ u u=0:=by unfold tw; rw[if_pos hu]
    have d4:tw ρ v u=0:=by unfold tw; rw[if_pos hv]
    simp only[R,j6]
    by_cases h4:r=v<;>by_cases h5:c=v
    ·simp only[if_pos h4,if_pos h5];rw[d1,d3,d4,h4]; omega
    ·simp only[if_pos h4,if_neg h5];rw[d1,d3,d4,h4]; omega
    ·simp only[if_neg h4,if_pos h5];rw[d2]; omega
    ·simp only[if_neg h4,if_neg h5];omega
 rw[hC,jw 1 (-1) _ _ hus,Hw (c:=u) (A:=upd (j6 (mg ρ u v) E) u fun c=>if c=v then 1 else 0) hus fun r hr=>?_,Int.one_mul,Int.mul_zero,Int.add_zero]
 ·refine bD fun r c hr _=>?_;simp only[upd]
  split
  ·rename_i h;subst h;have:mg ρ r v r=v:=by unfold mg; rw[if_pos hu]
   have hd:tw (mg ρ r v) r c=if r=c then 1 else 0:=by unfold tw; rw[this,if_neg (fun e=>huv e.symm)]
   simp only[j6];rw[EM huv,hd,Int.add_zero]
   by_cases h2:c=r
   ·rw[if_pos h2,if_pos h2.symm]
   ·rw[if_neg h2,if_neg (fun e=>h2 e.symm)]
  ·rfl
 ·simp only[upd]
  by_cases h2:r=u
  ·rw[if_pos h2,if_neg huv]
  ·rw[if_neg h2];simp only[j6];rw[Fl huv,Am hi hv huv h2];unfold tw;rw[if_neg h2]; split<;>rfl
theorem qe:∀(E:List (Nat × Nat)) (ρ:Nat→Nat),(∀i,ρ (ρ i)=ρ i)→ρ s=s→(∀e ∈ E,ρ e.1≤s∧ρ e.2≤s)→cx s (j6 ρ E)=(p9 s ρ E:Int)
 | [],ρ,_,_,_=>by
  unfold p9
  by_cases h:∃i,i<s∧ρ i=i
  ·rw[xo h,if_neg]
   ·rfl
   ·rw[List.all_eq_true];intro g;obtain⟨i,h1,h2⟩:=h;have:=g i (List.mem_range.2 h1);simp[h2] at this
  ·rw[yw fun i h1 h2=>h ⟨i,h1,h2⟩,if_pos]
   ·rfl
   ·rw[List.all_eq_true];intro i hi;simp only[bne_iff_ne,ne_eq];exact fun e=>h ⟨i,List.mem_range.1 hi,e⟩
 | (a,b)::E,ρ,hi,hs,hE=>by
  have hab:=hE (a,b) (by simp)
  have hE':∀e ∈ E,ρ e.1≤s∧ρ e.2≤s:=fun e he=>hE e (by simp[he])
  have ih:=qe E ρ hi hs hE';unfold p9
  by_cases h:ρ a=ρ b
  ·rw[if_pos h,Nat.add_zero,←ih];refine bD fun i j _ _=>?_;simp only[j6,iT,dl];rw[h,Int.sub_self,Int.zero_mul,Int.zero_add]
  ·rw[if_neg h];have go:∀u v,u≤s→v≤s→u≠s→u≠v→ρ u=u→ρ v=v→(∀i j,dl ρ (a,b) i*dl ρ (a,b) j=wv u v i*wv u v j)→cx s (j6 ρ ((a,b)::E))=((p9 s ρ E+p9 s (mg ρ u v) E:Nat):Int):=fun u v h1 h2 h3 h4 h5 h6 h7=>by
    have e1:cx s (j6 ρ ((a,b)::E))=cx s (fun i j=>j6 ρ E i j+wv u v i*wv u v j):=bD fun i j _ _=>by
     simp only[j6,iT];rw[h7]; omega
    have hus:u<s:=by omega
    have ih2:=qe E (mg ρ u v) (BP hi h6 h4) (by unfold mg; rw[hs,if_neg (fun e=>h3 e.symm)]) fun e he=>by
     have:=hE' e he;unfold mg;refine⟨?_,?_⟩
     ·split
      ·exact h2
      ·exact this.1
     ·split
      ·exact h2
      ·exact this.2
    rw[e1,Gh hi hus h5 h6 h4 h2,ih,ih2];omega
   by_cases h8:ρ a=s
   ·rw[if_pos h8];refine go (ρ b) (ρ a) hab.2 hab.1 (fun e=>h (by rw[h8,e])) (fun e=>h e.symm) (hi b) (hi a) fun i j=>?_
    simp only[dl,wv];generalize (if i=ρ a then(1:Int) else 0)=p
    generalize (if i=ρ b then(1:Int) else 0)=q
    generalize (if j=ρ a then(1:Int) else 0)=p'
    generalize (if j=ρ b then(1:Int) else 0)=q'
    rw[show p-q = -(q-p) by omega,show p'-q' = -(q'-p') by omega,Int.neg_mul_neg]
   ·rw[if_neg h8];exact go (ρ a) (ρ b) hab.1 hab.2 h8 h (hi a) (hi b) fun i j=>rfl
end
def j4 (A:Mt) (k r c:Nat):Mt:=fun i j=>A (if i<k then i else r) (if j<k then j else c)
theorem F9 (A:Mt) (k:Nat):cx (k+1) (j4 A k k k)=cx (k+1) A:=bD fun i j hi hj=>by
 simp only[j4];have h1:(if i<k then i else k)=i:=by split<;>omega
 have h2:(if j<k then j else k)=j:=by split<;>omega
 rw[h1,h2]
def Pq (A:Mt) (s k r:Nat) (m:Int) (Y:Nat→Int):Prop:=∃(Q:Int) (γ:Nat→Int),Q≠0∧∀c,c<s→Q*(if c<k then 0 else Y c)=(Q*m)*A r c+sm k fun i=>γ i*A i c
theorem Pq.minor {A:Mt} {s k r c:Nat} {m:Int} {Y:Nat→Int} (h:Pq A s k r m Y) (hk:k≤c) (hc:c<s):m*cx (k+1) (j4 A k r c)=cx k A*Y c:=by
 obtain⟨Q,γ,hQ,h⟩:=h;have h1:=Fk (n:=k+1) (r:=k) (A:=j4 A k r c) (by omega) (Q*m) γ (j4 A k r c k) k (by omega) (fun i hi=>by omega)
 rw[nm] at h1;have hrow:∀j,j<k+1→(Q*m)*j4 A k r c k j+sm k (fun i=>γ i*j4 A k r c i j)=Q*(if j<k then 0 else Y c):=fun j hj=>by
  have e:sm k (fun i=>γ i*j4 A k r c i j)=sm k fun i=>γ i*A i (if j<k then j else c):=hJ fun i hi=>by
   simp only[j4]; rw[if_pos hi]
  rw[e];have:=h (if j<k then j else c) (by split<;>omega)
  simp only[j4];rw[if_neg (show ¬k<k by omega),←this]
  by_cases hj2:j<k
  ·simp only[if_pos hj2]
  ·simp only[if_neg hj2];rw[if_neg (by omega)]
 rw[xy (n:=k) (fun j hj=>by
  simp only[upd];rw[if_pos trivial,hrow j (by omega),if_pos hj,Int.mul_zero])] at h1
 have h2:cx k (upd (j4 A k r c) k fun j=>(Q*m)*j4 A k r c k j+sm k fun i=>γ i*j4 A k r c i j)=cx k A:=bD fun i j hi hj=>by
  simp only[upd,j4];rw[if_neg (by omega),if_pos hi,if_pos hj]
 have h3:(upd (j4 A k r c) k fun j=>(Q*m)*j4 A k r c k j+sm k fun i=>γ i*j4 A k r c i j) k k=Q*Y c:=by
  simp only[upd];rw[if_pos trivial,hrow k (by omega),if_neg (by omega)]
 rw[h2,h3,Int.mul_assoc] at h1;have:Q*(cx k A*Y c)=Q*(m*cx (k+1) (j4 A k r c)):=by rw[←h1,Int.mul_left_comm]
 exact(Int.eq_of_mul_eq_mul_left hQ this).symm
def C9 (M:Mt) (k:Nat) (p:Int):Mt:=fun r c=>if k<r∧k≤c then(M r c*M k k-M r k*M k c)/p else M r c
structure Bar (A:Mt) (s k:Nat) (M:Mt) (p:Int):Prop where
 p0:p≠0
 pe:p=cx k A
 row:∀r,k≤r→r<s→Pq A s k r p (M r)
theorem Bar.start (A:Mt) (s:Nat):Bar A s 0 A 1:=⟨by decide,rfl,fun r _ _=>⟨1,fun _=>0,by decide,fun c _=>by simp[sm]⟩⟩
theorem Bar.minor {A:Mt} {s k:Nat} {M:Mt} {p:Int} (h:Bar A s k M p) {r c:Nat} (hr:k≤r) (hrs:r<s) (hc:k≤c) (hcs:c<s):M r c=cx (k+1) (j4 A k r c):=by
 have h1:=(h.row r hr hrs).minor hc hcs;rw[←h.pe] at h1;exact(Int.eq_of_mul_eq_mul_left h.p0 h1).symm
theorem Bar.Ed {A:Mt} {s k:Nat} {M:Mt} {p:Int} (h:Bar A s k M p) (hk:k<s):M k k=cx (k+1) A:=by
 rw[h.minor (Nat.le_refl k) hk (Nat.le_refl k) hk,F9]
theorem Bar.DU {A:Mt} {s k:Nat} {M:Mt} {p:Int} (h:Bar A s k M p) (hk:k<s) {r:Nat} (hr:k<r) (hrs:r<s):Pq A s (k+1) r (p*M k k) fun c=>M r c*M k k-M r k*M k c:=by
 obtain⟨Q1,γ1,hQ1,h1⟩:=h.row r (by omega) hrs
 obtain⟨Q2,γ2,hQ2,h2⟩:=h.row k (Nat.le_refl k) hk;refine⟨Q1*Q2,fun i=>if i<k then(M k k*Q2)*γ1 i+(-(M r k*Q1))*γ2 i else -(M r k*Q1*Q2*p),fun e=>by rcases Int.mul_eq_zero.1 e with e|e; exact hQ1 e; exact hQ2 e,fun c hc=>?_⟩
 have g1:=h1 c hc;have g2:=h2 c hc;have e1:sm (k+1) (fun i=>(if i<k then(M k k*Q2)*γ1 i+(-(M r k*Q1))*γ2 i else -(M r k*Q1*Q2*p))*A i c)=(M k k*Q2)*sm k (fun i=>γ1 i*A i c)+(-(M r k*Q1))*sm k (fun i=>γ2 i*A i c) + -(M r k*Q1*Q2*p)*A k c:=by
  simp only[sm];rw[if_neg (by omega),←wR]
  congr 1
  refine hJ fun i hi=>?_;rw[if_pos hi,Int.add_mul,Int.mul_assoc,Int.mul_assoc (-(M r k*Q1))]
 rw[e1];have e2:(if c<k+1 then(0:Int) else M r c*M k k-M r k*M k c)=M k k*(if c<k then 0 else M r c)-M r k*(if c<k then 0 else M k c):=by
  by_cases h3:c<k
  ·rw[if_pos (by omega),if_pos h3,if_pos h3]; simp
  ·rw[if_neg h3,if_neg h3]
   by_cases h4:c=k
   ·subst h4;rw[if_pos (by omega),Int.mul_comm]; omega
   ·rw[if_neg (by omega),Int.mul_comm (M r c)]
 rw[e2];generalize (if c<k then(0:Int) else M r c)=x at g1
 generalize (if c<k then(0:Int) else M k c)=y at g2
 generalize sm k (fun i=>γ1 i*A i c)=S1 at g1;generalize sm k (fun i=>γ2 i*A i c)=S2 at g2;have k1:S1=Q1*x-Q1*p*A r c:=by omega
 have k2:S2=Q2*y-Q2*p*A k c:=by omega
 rw[k1,k2];generalize A r c=a;generalize A k c=b;generalize M k k=q;generalize M r k=t;clear g1 g2 k1 k2 e1 e2 h1 h2
 grind
theorem Bar.exact {A:Mt} {s k:Nat} {M:Mt} {p:Int} (h:Bar A s k M p) (hk:k<s) (hp:M k k≠0) {r c:Nat} (hr:k<r) (hrs:r<s) (hc:k≤c) (hcs:c<s):M r c*M k k-M r k*M k c=p*C9 M k p r c:=by
 simp only[C9];rw[if_pos ⟨hr,hc⟩];have hd:p∣M r c*M k k-M r k*M k c:=by
  by_cases e:c=k
  ·subst e;rw[Int.mul_comm];exact⟨0,by omega⟩
  ·have h1:=(h.DU hk hr hrs).minor (c:=c) (by omega) hcs
   rw[←h.Ed hk] at h1;refine⟨cx (k+1+1) (j4 A (k+1) r c),?_⟩;have:M k k*(M r c*M k k-M r k*M k c)=M k k*(p*cx (k+1+1) (j4 A (k+1) r c)):=by
    rw[←h1];generalize cx (k+1+1) (j4 A (k+1) r c)=d;rw[Int.mul_comm p,Int.mul_assoc]
   exact Int.eq_of_mul_eq_mul_left hp this
 exact(Int.mul_ediv_cancel' hd).symm
theorem Bar.step {A:Mt} {s k:Nat} {M:Mt} {p:Int} (h:Bar A s k M p) (hk:k<s) (hp:M k k≠0):Bar A s (k+1) (C9 M k p) (M k k):=by
 refine⟨hp,h.Ed hk,fun r hr hrs=>?_⟩;obtain⟨Q,γ,hQ,h1⟩:=h.DU hk (show k<r by omega) hrs
 refine⟨Q*p,γ,fun e=>by rcases Int.mul_eq_zero.1 e with e|e; exact hQ e; exact h.p0 e,fun c hc=>?_⟩
 have h2:=h1 c hc;rw[Int.mul_assoc Q p (M k k),←h2,Int.mul_assoc Q p]
 by_cases h3:c<k+1
 ·rw[if_pos h3,if_pos h3,Int.mul_zero,Int.mul_zero]
 ·rw[if_neg h3,if_neg h3,←h.exact hk hp (show k<r by omega) hrs (by omega) hc]
def Kf:Nat→Nat→Mt→Int→Int
 | 0,_,_,p=>p
 | j+1,k,M,p=>if M k k=0 then 0 else Kf j (k+1) (C9 M k p) (M k k)
theorem Bj {A:Mt} {s:Nat} (hA:∀k,k<s→cx (k+1) A=0→cx s A=0):∀(j k:Nat) (M:Mt) (p:Int),j+k=s→Bar A s k M p→Kf j k M p=cx s A
 | 0,k,M,p,hj,h=>by
  have:k=s:=by omega
  subst this;exact h.pe
 | j+1,k,M,p,hj,h=>by
  simp only[Kf];have hk:k<s:=by omega
  by_cases h0:M k k=0
  ·rw[if_pos h0];have:=h.Ed hk;rw[h0] at this;exact(hA k hk this.symm).symm
  ·rw[if_neg h0];exact Bj hA j (k+1) _ _ (by omega) (h.step hk h0)
def GX (s:Nat) (ρ:Nat→Nat) (E:List (Nat × Nat)):Prop :=
 ∀f:Nat→Bool,(∀i,f i=f (ρ i))→(∀e ∈ E,f e.1=f e.2)→∀i,i≤s→f i=f s
structure Rho (s:Nat) (ρ:Nat→Nat):Prop where
 idem:∀i,ρ (ρ i)=ρ i
 top:ρ s=s
 le:∀i,i≤s→ρ i≤s
theorem Rho.id (s:Nat):Rho s fun i=>i:=⟨fun _=>rfl,rfl,fun _ h=>h⟩
theorem Rho.step {s:Nat} {ρ:Nat→Nat} (h:Rho s ρ) {a b:Nat} (ha:a≤s) (hb:b≤s) (hab:ρ a≠ρ b):Rho s (if ρ a=s then mg ρ (ρ b) (ρ a) else mg ρ (ρ a) (ρ b)):=by
 have key:∀u v,ρ u=u→ρ v=v→u≠v→u≠s→v≤s→Rho s (mg ρ u v):=fun u v hu hv huv hus hvs=>by
  refine⟨BP h.idem hv huv,?_,fun i hi=>?_⟩
  ·unfold T30.mg; rw[h.top,if_neg (fun e=>hus e.symm)]
  ·unfold T30.mg
   split
   ·exact hvs
   ·exact h.le i hi
 by_cases hs:ρ a=s
 ·rw[if_pos hs];exact key _ _ (h.idem b) (h.idem a) (fun e=>hab e.symm) (fun e=>hab (by rw[hs,e])) (h.le a ha)
 ·rw[if_neg hs];exact key _ _ (h.idem a) (h.idem b) hab hs (h.le b hb)
theorem yx {ρ:Nat→Nat} {u v:Nat} (hu:ρ u=u) (hv:ρ v=v) (f:Nat→Bool):(∀i,f i=f (mg ρ u v i))↔(∀i,f i=f (ρ i))∧f u=f v:=by
 constructor
 ·intro h;have huv:f u=f v:=by have:=h u; unfold mg at this; rwa[if_pos hu] at this
  refine⟨fun i=>?_,huv⟩;have:=h i;unfold mg at this
  by_cases hi:ρ i=u
  ·rw[if_pos hi] at this; rw[this,hi,huv]
  ·rwa[if_neg hi] at this
 ·rintro⟨h,huv⟩ i;unfold mg
  by_cases hi:ρ i=u
  ·rw[if_pos hi,h i,hi,huv]
  ·rw[if_neg hi]; exact h i
theorem p8 (s:Nat):∀(E:List (Nat × Nat)) (ρ:Nat→Nat),Rho s ρ→(∀e ∈ E,e.1≤s∧e.2≤s)→(0<p9 s ρ E↔GX s ρ E)
 | [],ρ,h,_=>by
  simp only[p9];constructor
  ·intro h0;have hall:∀i,i<s→ρ i≠i:=fun i hi=>by
    by_cases hc:(List.range s).all (fun i=>ρ i != i)=true
    ·simpa using List.all_eq_true.1 hc i (List.mem_range.2 hi)
    ·rw[if_neg hc] at h0; omega
   intro f hf _ i hi;have h1:=h.le i hi;have h2:ρ i=s:=by
    by_cases h3:ρ i<s
    ·exact absurd (h.idem i) (hall _ h3)
    ·omega
   rw[hf i,h2]
  ·intro hu;have:(List.range s).all (fun i=>ρ i != i)=true:=by
    refine List.all_eq_true.2 fun i hi=>?_;have hi:=List.mem_range.1 hi
    by_cases hr:ρ i=i
    ·have h1:=hu (fun j=>ρ j == i) (fun j=>by simp[h.idem]) (fun e he=>nomatch he) i (Nat.le_of_lt hi)
     simp only[hr,h.top,beq_self_eq_true] at h1;have:s=i:=by simpa using h1.symm
     omega
    ·simpa using hr
   rw[if_pos this]; exact Nat.one_pos
 | (a,b)::E,ρ,h,hE=>by
  have ha:a≤s:=(hE (a,b) List.mem_cons_self).1;have hb:b≤s:=(hE (a,b) List.mem_cons_self).2;have hE':∀e ∈ E,e.1≤s∧e.2≤s:=fun e he=>hE e (List.mem_cons_of_mem _ he);have ih:=p8 s E ρ h hE';simp only[p9]
  by_cases hab:ρ a=ρ b
  ·rw[if_pos hab,Nat.add_zero,ih];refine⟨fun hu f hf he i hi=>hu f hf (fun e h1=>he e (List.mem_cons_of_mem _ h1)) i hi,fun hu f hf he i hi=>hu f hf (fun e h1=>?_) i hi⟩;rcases List.mem_cons.1 h1 with rfl|h1
   ·show f a=f b
    rw[hf a,hf b,hab]
   ·exact he e h1
  ·rw[if_neg hab];have hR:=h.step ha hb hab;have ih2:=p8 s E _ hR hE';have conn:∀f:Nat→Bool,(∀i,f i=f ((if ρ a=s then mg ρ (ρ b) (ρ a) else mg ρ (ρ a) (ρ b)) i))↔(∀i,f i=f (ρ i))∧f a=f b:=fun f=>by
    by_cases hs:ρ a=s
    ·simp only[if_pos hs];rw[yx (h.idem b) (h.idem a)];refine⟨fun g=>⟨g.1,by rw[g.1 a,g.1 b,g.2]⟩,fun g=>⟨g.1,by rw[←g.1 a,←g.1 b,g.2]⟩⟩
    ·simp only[if_neg hs];rw[yx (h.idem a) (h.idem b)];refine⟨fun g=>⟨g.1,by rw[g.1 a,g.1 b,g.2]⟩,fun g=>⟨g.1,by rw[←g.1 a,←g.1 b,g.2]⟩⟩
   have e2:GX s (if ρ a=s then mg ρ (ρ b) (ρ a) else mg ρ (ρ a) (ρ b)) E↔GX s ρ ((a,b)::E):=by
    refine⟨fun hu f hf he i hi=>hu f ((conn f).2 ⟨hf,he (a,b) List.mem_cons_self⟩) (fun e h1=>he e (List.mem_cons_of_mem _ h1)) i hi,fun hu f hf he i hi=>?_⟩;obtain⟨g1,g2⟩:=(conn f).1 hf;refine hu f g1 (fun e h1=>?_) i hi;rcases List.mem_cons.1 h1 with rfl|h1
    ·exact g2
    ·exact he e h1
   rw[←e2,←ih2];constructor
   ·intro h0
    by_cases h1:0<p9 s ρ E
    ·refine ih2.2 (e2.2 fun f hf he i hi=>ih.1 h1 f hf (fun e h2=>he e (List.mem_cons_of_mem _ h2)) i hi)
    ·omega
   ·intro h0; omega
theorem zK (s:Nat):∀(E:List (Nat × Nat)) (ρ:Nat→Nat),p9 s ρ E≤2 ^ E.length
 | [],ρ=>by simp only[p9,List.length_nil]; split<;>simp
 | (a,b)::E,ρ=>by
  simp only[p9,List.length_cons,Nat.pow_succ];have h1:=zK s E ρ
  split
  ·omega
  ·have h2:=zK s E (if ρ a=s then mg ρ (ρ b) (ρ a) else mg ρ (ρ a) (ρ b))
   omega
def wV (k i:Nat):Nat:=if i<k then i else k
def jF (φ:Nat→Nat) (E:List (Nat × Nat)):List (Nat × Nat):=E.map fun e=>(φ e.1,φ e.2)
theorem u6 (φ:Nat→Nat) (i j:Nat):∀E,iT φ E i j=j6 (fun i=>i) (jF φ E) i j
 | []=>by simp[iT,j6,tw,jF]
 | e::E=>by
  have:=u6 φ i j E;simp only[j6,tw,jF,List.map_cons,iT,dl,if_true] at this ⊢;omega
theorem Bt (φ:Nat→Nat) {k i j:Nat} (hi:i<k) (hj:j<k):∀E,iT φ E i j=iT (fun v=>wV k (φ v)) E i j
 | []=>rfl
 | e::E=>by
  have key:∀i,i<k→dl φ e i=dl (fun v=>wV k (φ v)) e i:=fun i hi=>by
   have h1:∀v,(i=wV k (φ v))=(i=φ v):=fun v=>propext (by unfold wV; split<;>omega)
   unfold dl;simp only[h1]
  simp only[iT];rw[Bt φ hi hj E,key i hi,key j hj]
theorem uQ (k i:Nat):wV k i≤k:=by unfold wV; split<;>omega
theorem qO (φ:Nat→Nat) (E:List (Nat × Nat)) (k:Nat):cx k (iT φ E)=(p9 k (fun i=>i) (jF (fun v=>wV k (φ v)) E):Int):=by
 rw[←qe (jF (fun v=>wV k (φ v)) E) (fun i=>i) (fun _=>rfl) rfl fun e he=>?_]
 ·refine bD fun r c hr hc=>?_;rw[Bt φ hr hc,u6]
 ·unfold jF at he;obtain⟨e',_,rfl⟩:=List.mem_map.1 he;exact⟨uQ _ _,uQ _ _⟩
theorem DG (φ:Nat→Nat) (E:List (Nat × Nat)) (k:Nat):(cx k (iT φ E)).natAbs≤2 ^ E.length:=by
 rw[qO];have:=zK k (jF (fun v=>wV k (φ v)) E) fun i=>i;unfold jF at this;rw[List.length_map] at this;exact this
theorem BG (φ:Nat→Nat) (E:List (Nat × Nat)) (s:Nat) (h:∀e ∈ E,φ e.1≤s∧φ e.2≤s):cx s (iT φ E)=(p9 s (fun i=>i) (jF φ E):Int):=by
 rw[←qe (jF φ E) (fun i=>i) (fun _=>rfl) rfl fun e he=>?_]
 ·exact bD fun r c _ _=>u6 _ _ _ _
 ·unfold jF at he;obtain⟨e',h1,rfl⟩:=List.mem_map.1 he;exact h e' h1
theorem yl (φ:Nat→Nat) (E:List (Nat × Nat)) (s:Nat) (h:∀e ∈ E,φ e.1≤s∧φ e.2≤s) {k:Nat} (hk:k<s) (h0:cx (k+1) (iT φ E)=0):cx s (iT φ E)=0:=by
 rw[BG φ E s h];rw[qO] at h0;refine Int.natCast_eq_zero.2 (Nat.eq_zero_of_not_pos fun hp=>?_);have hs:∀e ∈ jF φ E,e.1≤s∧e.2≤s:=fun e he=>by
  obtain⟨e',h1,rfl⟩:=List.mem_map.1 he;exact h e' h1
 have hk':∀e ∈ jF (fun v=>wV (k+1) (φ v)) E,e.1≤k+1∧e.2≤k+1:=fun e he=>by
  obtain⟨e',_,rfl⟩:=List.mem_map.1 he;exact⟨uQ _ _,uQ _ _⟩
 have hu:=(p8 s _ _ (Rho.id s) hs).1 hp;have hz:0<p9 (k+1) (fun i=>i) (jF (fun v=>wV (k+1) (φ v)) E):=by
  refine(p8 (k+1) _ _ (Rho.id _) hk').2 fun f hf he i hi=>?_;have h1:=fun j hj=>hu (fun j=>f (wV (k+1) j)) (fun _=>rfl) (fun e h2=>?_) j hj
  ·have c1:wV (k+1) s=k+1:=by unfold wV; rw[if_neg (by omega)]
   have h2:=h1 i (by omega)
   rw[c1] at h2
   by_cases hik:i=k+1
   ·rw[hik]
   ·have c2:wV (k+1) i=i:=by unfold wV; rw[if_pos (by omega)]
    rwa[c2] at h2
  ·obtain⟨e',h3,rfl⟩:=List.mem_map.1 h2;exact he (wV (k+1) (φ e'.1),wV (k+1) (φ e'.2)) (List.mem_map.2 ⟨e',h3,rfl⟩)
 omega
theorem Il (φ:Nat→Nat) (E:List (Nat × Nat)) (s:Nat) (h:∀e ∈ E,φ e.1≤s∧φ e.2≤s):Kf s 0 (iT φ E) 1=(p9 s (fun i=>i) (jF φ E):Int):=by
 rw[←BG φ E s h];exact Bj (fun k hk h0=>yl φ E s h hk h0) s 0 _ 1 (Nat.add_zero _) (Bar.start _ _)
def Nb (E:List (Nat × Nat)) (x y:Nat):Prop:=(x,y) ∈ E∨(y,x) ∈ E
inductive Cn (E:List (Nat × Nat)) (i:Nat):Nat→Prop
 | refl:Cn E i i
 | step {j k:Nat}:Cn E i j→Nb E j k→Cn E i k
section
variable {E E' : List (Nat × Nat)} {i j k x y : Nat}
theorem Nb.symm (h:Nb E x y):Nb E y x:=h.elim .inr .inl
theorem Cn.trans (h:Cn E i j) (h':Cn E j k):Cn E i k:=by
 induction h' with
 | refl=>exact h
 | step _ a ih=>exact .step ih a
theorem Cn.one (h:Nb E x y):Cn E x y:=.step .refl h
theorem Cn.symm (h:Cn E i j):Cn E j i:=by
 induction h with
 | refl=>exact .refl
 | step _ a ih=>exact(Cn.one a.symm).trans ih
theorem Nb.mono (hs:∀e ∈ E,e ∈ E') (h:Nb E x y):Nb E' x y:=h.elim (fun h=>.inl (hs _ h)) fun h=>.inr (hs _ h)
theorem Cn.mono (hs:∀e ∈ E,e ∈ E') (h:Cn E i j):Cn E' i j:=by
 induction h with
 | refl=>exact .refl
 | step _ a ih=>exact .step ih (a.mono hs)
theorem Cn.closed {Q:Nat→Prop} (h:Cn E i j) (hi:Q i) (hc:∀x y,Q x→Nb E x y→Q y):Q j:=by
 induction h with
 | refl=>exact hi
 | step _ a ih=>exact hc _ _ ih a
theorem Ez:Cn [] i j↔i=j:=⟨fun h=>h.closed (Q:=fun j=>i=j) rfl fun _ _ _ h=>by rcases h with h|h<;>simp at h,fun h=>h ▸ .refl⟩
theorem qn {a b:Nat}:Cn ((a,b)::E) i j↔Cn E i j∨(Cn E i a∧Cn E b j)∨(Cn E i b∧Cn E a j):=by
 constructor
 ·intro h;refine h.closed (Q:=fun j=>Cn E i j∨(Cn E i a∧Cn E b j)∨(Cn E i b∧Cn E a j)) (.inl .refl) fun x y hx hn=>?_;have old:Nb E x y→Cn E i y∨(Cn E i a∧Cn E b y)∨(Cn E i b∧Cn E a y):=fun hn=>by
   rcases hx with h|⟨h1,h2⟩|⟨h1,h2⟩
   ·exact .inl (.step h hn)
   ·exact .inr (.inl ⟨h1,.step h2 hn⟩)
   ·exact .inr (.inr ⟨h1,.step h2 hn⟩)
  rcases hn with hn|hn
  ·rcases List.mem_cons.1 hn with e|hn
   ·cases e;rcases hx with h|⟨h1,h2⟩|⟨h1,h2⟩
    ·exact .inr (.inl ⟨h,.refl⟩)
    ·exact .inr (.inl ⟨h1,.refl⟩)
    ·exact .inl h1
   ·exact old (.inl hn)
  ·rcases List.mem_cons.1 hn with e|hn
   ·cases e;rcases hx with h|⟨h1,h2⟩|⟨h1,h2⟩
    ·exact .inr (.inr ⟨h,.refl⟩)
    ·exact .inl h1
    ·exact .inr (.inr ⟨h1,.refl⟩)
   ·exact old (.inr hn)
 ·have up:∀{x y},Cn E x y→Cn ((a,b)::E) x y:=fun h=>h.mono fun e he=>by simp[he]
  have ab:Cn ((a,b)::E) a b:=.one (.inl (by simp))
  rintro(h|⟨h1,h2⟩|⟨h1,h2⟩)
  ·exact up h
  ·exact((up h1).trans ab).trans (up h2)
  ·exact((up h1).trans ab.symm).trans (up h2)
theorem qg (h:∀e,e ∈ E↔e ∈ E'):Cn E i j↔Cn E' i j:=⟨fun g=>g.mono fun e he=>(h e).1 he,fun g=>g.mono fun e he=>(h e).2 he⟩
def bP (r:Nat→Nat) (e:Nat × Nat):Nat→Nat:=fun x=>if r x=max (r e.1) (r e.2) then min (r e.1) (r e.2) else r x
structure Rt (r:Nat→Nat) (E:List (Nat × Nat)):Prop where
 le:∀x,r x≤x
 rr:∀x,r (r x)=r x
 cn:∀x y,r x=r y↔Cn E x y
theorem Rt.id:Rt (fun x=>x) []:=⟨fun _=>Nat.le_refl _,fun _=>rfl,fun _ _=>Ez.symm⟩
theorem mN {r:Nat→Nat} {e:Nat × Nat} (h:r e.1=r e.2):bP r e=r:=by
 funext x
 simp only[bP,h,Nat.max_self,Nat.min_self]
 split
 ·rename_i h; exact h.symm
 ·rfl
theorem Rt.join {r:Nat→Nat} (h:Rt r E) (e:Nat × Nat):Rt (bP r e) (e::E):=by
 obtain⟨a,b⟩:=e;have hmin:∀x,bP r (a,b) x≤r x:=fun x=>by
  simp only[bP]; split<;>omega
 have hm1:r (min (r a) (r b))=min (r a) (r b):=by
  rcases Nat.le_total (r a) (r b) with h1|h1
  ·rw[Nat.min_eq_left h1,h.rr]
  ·rw[Nat.min_eq_right h1,h.rr]
 refine⟨fun x=>Nat.le_trans (hmin x) (h.le x),fun x=>?_,fun x y=>?_⟩
 ·simp only[bP]
  by_cases h1:r x=max (r a) (r b)
  ·rw[if_pos h1,hm1]
   split<;>omega
  ·rw[if_neg h1,h.rr,if_neg h1]
 ·rw[qn,←h.cn,←h.cn,←h.cn,←h.cn,←h.cn];simp only[bP];have h2:max (r a) (r b)=r a∧min (r a) (r b)=r b∨max (r a) (r b)=r b∧min (r a) (r b)=r a:=by omega
  split<;>split<;>omega
theorem Rt.OA:∀{T E:List (Nat × Nat)} {r:Nat→Nat},Rt r E→Rt (T.foldl bP r) (T.reverse++E):=by
 intro T
 induction T with
 | nil=>intro E r h; exact h
 | cons e T ih =>
  intro E r h;have:=ih (h.join e);rwa[List.foldl_cons,List.reverse_cons,List.append_assoc]
def rep (T:List (Nat × Nat)):Nat→Nat:=T.foldl bP (fun x=>x)
theorem wE (T:List (Nat × Nat)):Rt (rep T) T.reverse:=by
 have:=Rt.OA (T:=T) Rt.id;rwa[List.append_nil] at this
theorem Ay {T:List (Nat × Nat)}:rep T x=rep T y↔Cn T x y:=((wE T).cn x y).trans (qg fun e=>List.mem_reverse)
def iF (V:List Nat) (r:Nat→Nat):Nat:=(V.filter fun v=>r v == v).length
theorem kv {p q:Nat→Bool} {a:Nat}:∀{V:List Nat},V.Nodup→a ∈ V→p a=true→(∀v,q v=true↔p v=true∧v≠a)→(V.filter p).length=(V.filter q).length+1:=by
 intro V
 induction V with
 | nil=>intro _ h; cases h
 | cons v V ih =>
  intro hn ha hp hq;rw[List.nodup_cons] at hn
  by_cases e:v=a
  ·subst e;have hqa:q v=false:=by
    cases h:q v with
    | false=>rfl
    | true=>exact absurd rfl ((hq v).1 h).2
   rw[List.filter_cons_of_pos hp,List.filter_cons_of_neg (by simp[hqa]),List.length_cons]
   congr 2
   refine List.filter_congr fun x hx=>?_;have hne:x≠v:=fun e=>hn.1 (e ▸ hx);have:=hq x;cases h1:p x<;>cases h2:q x<;>simp_all
  ·have ha':a ∈ V:=by rcases List.mem_cons.1 ha with h|h; exact absurd h.symm e; exact h
   have:=ih hn.2 ha' hp hq;have hv:q v=p v:=by
    have:=hq v;cases h1:p v<;>cases h2:q v<;>simp_all
   by_cases h1:p v=true
   ·rw[List.filter_cons_of_pos h1,List.filter_cons_of_pos (by rw[hv]; exact h1),List.length_cons,List.length_cons,this]
   ·rw[List.filter_cons_of_neg h1,List.filter_cons_of_neg (by rw[hv]; exact h1),this]
theorem A8 {V:List Nat} {r:Nat→Nat} {e:Nat × Nat} (hV:V.Nodup) (hr:∀x,r (r x)=r x) (h1:r e.1 ∈ V) (h2:r e.2 ∈ V) (hne:r e.1≠r e.2):iF V r=iF V (bP r e)+1:=by
 have hm:max (r e.1) (r e.2) ∈ V:=by
  rcases Nat.le_total (r e.1) (r e.2) with h|h
  ·rwa[Nat.max_eq_right h]
  ·rwa[Nat.max_eq_left h]
 have hrm:r (max (r e.1) (r e.2))=max (r e.1) (r e.2):=by
  rcases Nat.le_total (r e.1) (r e.2) with h|h
  ·rw[Nat.max_eq_right h,hr]
  ·rw[Nat.max_eq_left h,hr]
 refine kv (a:=max (r e.1) (r e.2)) hV hm (by simp only[beq_iff_eq]; exact hrm) fun v=>?_
 simp only[beq_iff_eq,bP];constructor
 ·intro h
  split at h
  ·rename_i h3;exfalso;have h4:r v=v:=by rw[←h] at h3 ⊢; rcases Nat.le_total (r e.1) (r e.2) with h|h<;>simp only[Nat.min_eq_left h,Nat.min_eq_right h,hr]
   omega
  ·rename_i h3; exact⟨h,fun e=>h3 (by rw[e,hrm])⟩
 ·rintro⟨h,h3⟩;rw[if_neg (by rw[h]; exact h3)]; exact h
def nq (r:Nat→Nat):List (Nat × Nat)→Nat
 | []=>0
 | e::T=>(if r e.1=r e.2 then 0 else 1)+nq (bP r e) T
def bj (r:Nat→Nat):List (Nat × Nat)→Bool
 | []=>true
 | e::T=>!(r e.1 == r e.2) && bj (bP r e) T
theorem mU:∀(T:List (Nat × Nat)) (r:Nat→Nat),nq r T≤T.length
 | [],_=>Nat.le_refl _
 | e::T,r=>by
  have:=mU T (bP r e);simp only[nq,List.length_cons]
  split<;>omega
theorem oh:∀(T:List (Nat × Nat)) (r:Nat→Nat),nq r T=T.length↔bj r T=true
 | [],_=>by simp[nq,bj]
 | e::T,r=>by
  have h1:=mU T (bP r e);have h2:=oh T (bP r e);simp only[nq,List.length_cons,bj,Bool.and_eq_true,Bool.not_eq_true',beq_eq_false_iff_ne,ne_eq]
  by_cases h:r e.1=r e.2
  ·rw[if_pos h]; simp[h]; omega
  ·rw[if_neg h,←h2]; simp[h]; omega
theorem pa {V:List Nat} (hV:V.Nodup):∀(T:List (Nat × Nat)) {E:List (Nat × Nat)} {r:Nat→Nat},Rt r E→(∀x ∈ V,r x ∈ V)→(∀e ∈ T,e.1 ∈ V∧e.2 ∈ V)→iF V r=iF V (T.foldl bP r)+nq r T∧∀x ∈ V,T.foldl bP r x ∈ V
 | [],_,_,_,hv,_=>⟨rfl,hv⟩
 | e::T,E,r,h,hv,ht=>by
  have he:=ht e (by simp)
  have hv':∀x ∈ V,bP r e x ∈ V:=fun x hx=>by
   simp only[bP]
   split
   ·rcases Nat.le_total (r e.1) (r e.2) with h|h
    ·rw[Nat.min_eq_left h]; exact hv _ he.1
    ·rw[Nat.min_eq_right h]; exact hv _ he.2
   ·exact hv x hx
  have ih:=pa hV T (h.join e) hv' fun e he=>ht e (by simp[he])
  refine⟨?_,ih.2⟩;rw[List.foldl_cons];simp only[nq]
  by_cases hne:r e.1=r e.2
  ·rw[if_pos hne,Nat.zero_add,←ih.1,mN hne]
  ·rw[if_neg hne,A8 hV h.rr (hv _ he.1) (hv _ he.2) hne,ih.1]; omega
theorem Ef (V:List Nat):iF V (fun x=>x)=V.length:=by simp[iF]
theorem gC {V:List Nat} (hV:V.Nodup) {T:List (Nat × Nat)} (ht:∀e ∈ T,e.1 ∈ V∧e.2 ∈ V):V.length=iF V (rep T)+nq (fun x=>x) T∧∀x ∈ V,rep T x ∈ V:=by
 have:=pa hV T Rt.id (fun x h=>h) ht;rwa[Ef] at this
theorem sJ {p:Nat→Bool}:∀{V:List Nat},V.Nodup→(∀i j,i ∈ V→j ∈ V→p i=true→p j=true→i=j)→(V.filter p).length≤1:=by
 intro V
 induction V with
 | nil=>intro _ _; exact Nat.zero_le _
 | cons v V ih =>
  intro hn h;rw[List.nodup_cons] at hn
  by_cases hp:p v=true
  ·rw[List.filter_cons_of_pos hp];have:V.filter p = []:=List.filter_eq_nil_iff.2 fun x hx hpx=>hn.1 ((h v x (by simp) (by simp[hx]) hp hpx) ▸ hx)
   rw[this]; exact Nat.le_refl _
  ·rw[List.filter_cons_of_neg hp];exact ih hn.2 fun i j hi hj=>h i j (by simp[hi]) (by simp[hj])
theorem ud {V:List Nat} (hV:V.Nodup) {T:List (Nat × Nat)} (ht:∀e ∈ T,e.1 ∈ V∧e.2 ∈ V):iF V (rep T)≤1↔∀x ∈ V,∀y ∈ V,Cn T x y:=by
 have hr:=wE T;have hv:=(gC hV ht).2;constructor
 ·intro h x hx y hy;rw[←Ay];have hmem:∀z ∈ V,rep T z ∈ V.filter fun v=>rep T v == v:=fun z hz=>List.mem_filter.2 ⟨hv z hz,by simp only[beq_iff_eq]; exact hr.rr z⟩
  have one:∀{l:List Nat} {a b:Nat},l.length≤1→a ∈ l→b ∈ l→a=b:=by
   intro l a b hl ha hb
   match l with
   | []=>cases ha
   | [c]=>rw[List.mem_singleton.1 ha,List.mem_singleton.1 hb]
   | _::_::_=>simp at hl
  exact one h (hmem x hx) (hmem y hy)
 ·intro h;refine sJ hV fun i j hi hj h1 h2=>?_;have:=Ay.2 (h i hi j hj);rw[←eq_of_beq h1,←eq_of_beq h2,this]
theorem Dl {V:List Nat} (hV:V.Nodup) {T:List (Nat × Nat)} (ht:∀e ∈ T,e.1 ∈ V∧e.2 ∈ V) {x:Nat} (hx:x ∈ V):0<iF V (rep T) :=
 List.length_pos_of_mem (List.mem_filter.2 ⟨(gC hV ht).2 x hx,by simp only[beq_iff_eq]; exact(wE T).rr x⟩)
theorem D3 {V:List Nat} (hV:V.Nodup) {T:List (Nat × Nat)} (ht:∀e ∈ T,e.1 ∈ V∧e.2 ∈ V) {x:Nat} (hx:x ∈ V) (hl:T.length+1=V.length):bj (fun x=>x) T=true↔∀y ∈ V,Cn T x y:=by
 have h1:=(gC hV ht).1;have h2:=mU T fun x=>x;have h3:=Dl hV ht hx;rw[←oh];have:iF V (rep T)≤1↔∀y ∈ V,Cn T x y:=(ud hV ht).trans ⟨fun h y hy=>h x hx y hy,fun h y hy z hz=>(h y hy).symm.trans (h z hz)⟩;rw[←this];omega
theorem ym {V:List Nat} (hV:V.Nodup) {T T':List (Nat × Nat)} {a b:Nat} (ht:∀e ∈ T,e.1 ∈ V∧e.2 ∈ V) {x:Nat} (hx:x ∈ V) (hl:T.length+1=V.length) (hc:∀y ∈ V,Cn T x y) (hT:∀e,e ∈ T↔e=(a,b)∨e ∈ T') (hl':T'.length<T.length):¬Cn T' a b:=by
 intro h;have ht':∀e ∈ T',e.1 ∈ V∧e.2 ∈ V:=fun e he=>ht e ((hT e).2 (.inr he));have h1:=(gC hV ht').1;have h2:=mU T' fun x=>x;have h3:iF V (rep T')≤1:=(ud hV ht').2 fun y hy z hz=>by
  have hyz:Cn T y z:=(hc y hy).symm.trans (hc z hz);have:Cn ((a,b)::T') y z:=(qg fun e=>by rw[hT e,List.mem_cons]).1 hyz
  rcases qn.1 this with g|⟨g1,g2⟩|⟨g1,g2⟩
  ·exact g
  ·exact(g1.trans h).trans g2
  ·exact(g1.trans h.symm).trans g2
 omega
theorem KC {R B:List (Nat × Nat)} {at_ to:Nat} (hne:at_≠to) (h:Cn R at_ to) (hB:∀e,e ∈ R→e ∈ B∨e.1=at_∨e.2=at_) (hB':∀e ∈ B,e.1≠at_∧e.2≠at_):∃v,Nb R at_ v∧Cn B v to∧v≠at_:=by
 refine Classical.byContradiction fun hno=>?_;have key:∀z,Cn R to z→Cn B z to∧z≠at_:=fun z hz=>by
  refine hz.closed (Q:=fun z=>Cn B z to∧z≠at_) ⟨.refl,fun e=>hne e.symm⟩ fun x y hx hn=>?_;have hy:y≠at_:=fun e=>hno ⟨x,by rw[←e]; exact hn.symm,hx.1,hx.2⟩
  have hnB:Nb B x y:=by
   rcases hn with hn|hn
   ·rcases hB _ hn with h|h|h
    ·exact .inl h
    ·exact absurd h hx.2
    ·exact absurd h hy
   ·rcases hB _ hn with h|h|h
    ·exact .inr h
    ·exact absurd h hy
    ·exact absurd h hx.2
  exact⟨(Cn.one hnB.symm).trans hx.1,hy⟩
 exact(key at_ h.symm).2 rfl
end
end Go.Ab.T30
end

section
namespace Go.Ab.W
open Go Go.Ab
theorem LO:uM .u64=2 ^ 64:=rfl
theorem ef {a:Nat} (h:a<2 ^ 64):uw .u64 a=a:=Nat.mod_eq_of_lt h
theorem gV {a:Nat} (h:a<2 ^ 64) {i:Nat} (hi:a.testBit i=true):i<64:=by
 rcases Nat.lt_or_ge i 64 with h1|h1
 ·exact h1
 ·have:a<2 ^ i:=Nat.lt_of_lt_of_le h (Nat.pow_le_pow_right (by decide) h1)
  rw[Nat.testBit_lt_two_pow this] at hi; cases hi
theorem gN {a b:Nat} (ha:a<2 ^ 64) (hb:b<2 ^ 64):uw .u64 (uw .u64 a &&& uw .u64 b)=a &&& b:=by
 rw[ef ha,ef hb,ef (Nat.lt_of_le_of_lt Nat.and_le_left ha)]
theorem fH {a b:Nat} (ha:a<2 ^ 64) (hb:b<2 ^ 64):uw .u64 (uw .u64 a ||| uw .u64 b)=a ||| b:=by
 rw[ef ha,ef hb,ef (Nat.or_lt_two_pow ha hb)]
theorem jK {a b:Nat} (ha:a<2 ^ 64):a &&& b<2 ^ 64:=Nat.lt_of_le_of_lt Nat.and_le_left ha
theorem j9 {a b:Nat} (ha:a<2 ^ 64) (hb:b<2 ^ 64):a ||| b<2 ^ 64:=Nat.or_lt_two_pow ha hb
theorem tI {a b:Nat} (ha:a<2 ^ 64) (hb:b<2 ^ 64):dU .u64 a b=a ^^^ (a &&& b):=by
 unfold dU;rw[ef ha,ef hb,ef (Nat.xor_lt_two_pow ha (jK ha))]
theorem fI {a b:Nat} (ha:a<2 ^ 64) (hb:b<2 ^ 64) (i:Nat):(dU .u64 a b).testBit i=(a.testBit i && !b.testBit i):=by
 rw[tI ha hb,Nat.testBit_xor,Nat.testBit_and];cases a.testBit i<;>cases b.testBit i<;>rfl
theorem Cr {a b:Nat} (ha:a<2 ^ 64) (hb:b<2 ^ 64):dU .u64 a b<2 ^ 64:=by
 rw[tI ha hb]; exact Nat.xor_lt_two_pow ha (jK ha)
theorem gK {k:Nat} (h:k<64):ej .u64 1 k=2 ^ k:=by
 unfold ej;rw[Nat.min_eq_left (Nat.le_of_lt (show k<IntKind.bits .u64 from h)),Nat.one_mul]
 exact ef (Nat.pow_lt_pow_right (by decide) h)
theorem dB {k:Nat} (h:k<64):2 ^ k<2 ^ 64:=Nat.pow_lt_pow_right (by decide) h
theorem eX (k i:Nat):(2 ^ k).testBit i=decide (i=k):=by
 rw[Nat.testBit_two_pow]
 by_cases h:k=i
 ·simp[h]
 ·simp[h,Ne.symm h]
theorem J2 {k:Int} (h0:0≤k) (h1:k<64):ui .u64 k=k.toNat:=by
 unfold ui;rw[Int.emod_eq_of_lt h0 (by rw[LO]; omega)]
theorem fW {a k:Nat} (h:k≤64):bu .u64 a k=a >>> k:=by
 unfold bu;rw[Nat.min_eq_left (show k≤IntKind.bits .u64 from h),Nat.shiftRight_eq_div_pow]
theorem jH {a k:Nat} (ha:a<2 ^ 64) (h:k≤64):decide (uw .u64 (uw .u64 (bu .u64 a k) &&& uw .u64 1)=1)=a.testBit k:=by
 have hs:a >>> k<2 ^ 64:=Nat.lt_of_le_of_lt (by rw[Nat.shiftRight_eq_div_pow]; exact Nat.div_le_self _ _) ha
 rw[fW h,gN hs (by decide),Nat.testBit]
 rw[Nat.and_comm];have h2:1 &&& a >>> k=(a >>> k)%2:=by rw[Nat.and_comm,Nat.and_one_is_mod]
 rw[h2];rcases Nat.mod_two_eq_zero_or_one (a >>> k) with h3|h3<;>rw[h3]<;>rfl
theorem gO {a b:Nat} (h:∀i,a.testBit i=true↔b.testBit i=true):a=b:=Nat.eq_of_testBit_eq fun i=>by
 have:=h i;cases ha:a.testBit i<;>cases hb:b.testBit i<;>simp_all
theorem k9 {a:Nat}:a=0↔∀i,a.testBit i=false:=⟨fun h=>by subst h; exact fun i=>Nat.zero_testBit i,fun h=>Nat.eq_of_testBit_eq fun i=>by rw[h,Nat.zero_testBit]⟩
theorem ft {x:Nat} (h0:0<x) (h1:x<2 ^ 64):x.testBit (tz x)=true∧∀i,i<tz x→x.testBit i=false:=by
 obtain⟨h2,_,q,hq⟩:=kT h0 h1;have key:∀i,x.testBit i=(decide (tz x≤i) && (2*q+1).testBit (i-tz x)):=fun i=>by
  conv=>lhs; rw[hq]
  rw[Nat.testBit_two_pow_mul]
 refine⟨?_,fun i hi=>?_⟩
 ·rw[key,Nat.sub_self];simp[Nat.testBit_zero]
 ·rw[key,decide_eq_false (by omega)]; rfl
theorem GK {x:Nat} (h0:0<x) (h1:x<2 ^ 64):uw .u64 (uw .u64 x &&& uw .u64 (zv .u64 x))=2 ^ tz x:=by
 obtain⟨h2,h3,_⟩:=kT h0 h1;have hn:zv .u64 x=2 ^ 64-x:=by
  unfold zv;rw[ef h1,LO,ef (by omega)]
 rw[hn,gN h1 (by omega),h3]
def DU (x:Nat):Nat:=uw .u64 (uw .u64 x &&& uw .u64 (fc .u64 x 1))
theorem Gv {x:Nat} (h0:0<x) (h1:x<2 ^ 64):DU x=x &&& (x-1):=by
 have:fc .u64 x 1=x-1:=by
  unfold fc;rw[LO,ef (show(1:Nat)<2 ^ 64 by decide)]
  show(x+(2 ^ 64-1))%2 ^ 64=x-1
  omega
 unfold DU;rw[this,gN h1 (by omega)]
theorem Ga (t q i:Nat):(2 ^ t*(2*q+1)-1).testBit i=if i<t then true else if i=t then false else(2 ^ t*(2*q+1)).testBit i:=by
 have e:2 ^ t*(2*q+1)-1=2 ^ t*(2*q)+(2 ^ t-1):=by
  rw[Nat.mul_add,Nat.mul_one];have:=Nat.two_pow_pos t;omega
 rw[e,Nat.testBit_two_pow_mul_add _ (by have:=Nat.two_pow_pos t; omega)]
 by_cases h:i<t
 ·rw[if_pos h,if_pos h,Nat.testBit_two_pow_sub_one]; simp[h]
 ·rw[if_neg h,if_neg h]
  by_cases h':i=t
  ·subst h'; simp[Nat.testBit_zero]
  ·rw[if_neg h',Nat.testBit_two_pow_mul];obtain⟨d,hd⟩:∃d,i-t=d+1:=⟨i-t-1,by omega⟩
   rw[hd,Nat.testBit_succ,Nat.testBit_succ];have:(2*q+1)/2=2*q/2:=by omega
   rw[this];simp; omega
theorem qj {x:Nat} (h0:0<x) (h1:x<2 ^ 64) (i:Nat):(DU x).testBit i=(x.testBit i && !decide (i=tz x)):=by
 rw[Gv h0 h1,Nat.testBit_and];obtain⟨_,_,q,hq⟩:=kT h0 h1;obtain⟨hb,hl⟩:=ft h0 h1;have:=Ga (tz x) q i;rw[←hq] at this;rw[this]
 by_cases h:i<tz x
 ·rw[hl i h]; rfl
 ·rw[if_neg h]
  by_cases h':i=tz x
  ·simp[h']
  ·simp[h']
theorem Mh {x:Nat} (h0:0<x) (h1:x<2 ^ 64):DU x<2 ^ 64:=by rw[Gv h0 h1]; exact jK h1
def bitsOf (x:Nat):List Nat:=(List.range 64).filter fun i=>x.testBit i
theorem ry {x i:Nat} (h:x<2 ^ 64):i ∈ bitsOf x↔x.testBit i=true:=by
 unfold bitsOf;rw[List.mem_filter,List.mem_range];exact⟨fun h=>h.2,fun hi=>⟨gV h hi,hi⟩⟩
theorem mF (x:Nat):(bitsOf x).length≤64:=by
 unfold bitsOf;exact Nat.le_trans (List.length_filter_le _ _) (by simp)
theorem yF:bitsOf 0 = []:=by
 unfold bitsOf;simp
theorem iq (p q:Nat→Bool) (t:Nat):∀(n s:Nat),s≤t→t<s+n→p t=true→(∀i,s≤i→i<t→p i=false)→(∀i,t<i→p i=q i)→(∀i,s≤i→i≤t→q i=false) →
  (List.range' s n).filter p=t::(List.range' s n).filter q
 | 0,s,h1,h2,_,_,_,_=>by omega
 | n+1,s,h1,h2,hp,hl,hg,hq=>by
  rw[List.range'_succ]
  by_cases h:s=t
  ·subst h;rw[List.filter_cons_of_pos hp,List.filter_cons_of_neg (by rw[hq s (Nat.le_refl _) (Nat.le_refl _)]; decide)]
   congr 1
   apply List.filter_congr;intro i hi;rw[List.mem_range'_1] at hi;exact hg i (by omega)
  ·rw[List.filter_cons_of_neg (by rw[hl s (Nat.le_refl _) (by omega)]; decide),List.filter_cons_of_neg (by rw[hq s (Nat.le_refl _) (by omega)]; decide)]
   exact iq p q t n (s+1) (by omega) (by omega) hp (fun i a b=>hl i (by omega) b) hg (fun i a b=>hq i (by omega) b)
theorem px {x:Nat} (h0:0<x) (h1:x<2 ^ 64):bitsOf x=tz x::bitsOf (DU x):=by
 obtain⟨hb,hl⟩:=ft h0 h1;unfold bitsOf;rw[List.range_eq_range'];refine iq _ _ (tz x) 64 0 (Nat.zero_le _) (by have:=(kT h0 h1).1; omega) hb (fun i _ h=>hl i h) (fun i h=>?_) (fun i _ h=>?_)
 ·show x.testBit i=(DU x).testBit i
  rw[qj h0 h1];have:i≠tz x:=by omega
  simp[this]
 ·show(DU x).testBit i=false
  rw[qj h0 h1]
  by_cases e:i=tz x
  ·simp[e]
  ·rw[hl i (by omega)]; rfl
section
variable {σ ρ τ : Type}
theorem Je {body:τ→Option (τ ⊕ ρ)} (mk:Nat→σ→τ) (step:σ→Nat→σ) (fin:σ→ρ) (I:σ→Prop) (x0:Nat)
  (hs:∀r s,0<r→r<2 ^ 64→x0.testBit (tz r)=true→I s→body (mk r s)=some (.inl (mk (DU r) (step s (tz r))))∧I (step s (tz r))) (he:∀s,I s→body (mk 0 s)=some (.inr (fin s))) :
  ∀(n:Nat) (r:Nat) (s:σ),r<2 ^ 64→(∀i,r.testBit i=true→x0.testBit i=true)→I s→(bitsOf r).length<n→bG body n (mk r s)=some (fin ((bitsOf r).foldl step s)):=by
 intro n
 induction n with
 | zero=>intro r s _ _ _ h; exact absurd h (Nat.not_lt_zero _)
 | succ n ih =>
  intro r s hr hx hI hn;rcases Nat.eq_zero_or_pos r with h0|h0
  ·subst h0;rw[yF];simp only[bG,he s hI,List.foldl_nil]
  ·obtain⟨h1,h2⟩:=hs r s h0 hr (hx _ (ft h0 hr).1) hI;rw[px h0 hr,List.foldl_cons];simp only[bG,h1];refine ih _ _ (Mh h0 hr) (fun i hi=>hx i ?_) h2 (by rw[px h0 hr] at hn; simpa using hn)
   rw[qj h0 hr] at hi;simp only[Bool.and_eq_true] at hi;exact hi.1
theorem IX {α:Type} {body:τ→Option (τ ⊕ ρ)} (l:List α) (mk:σ→Int→τ) (step:σ→α→σ) (fin:σ→ρ) (I:Nat→σ→Prop)
  (hs:∀s i x,l[i]? = some x→I i s→body (mk s (i:Int))=some (.inl (mk (step s x) ((i+1:Nat):Int)))∧I (i+1) (step s x)) (he:∀s,I l.length s→body (mk s (l.length:Int))=some (.inr (fin s))) :
  ∀(k i n:Nat) (s:σ),i+k=l.length→I i s→k<n→bG body n (mk s (i:Int))=some (fin ((l.drop i).foldl step s))∧I l.length ((l.drop i).foldl step s):=by
 intro k
 induction k with
 | zero =>
  intro i n s hi hI hn;obtain⟨n,rfl⟩:∃n',n=n'+1:=⟨n-1,by omega⟩
  have:i=l.length:=by omega
  subst this;rw[List.drop_length];exact⟨by simp only[bG,he s hI,List.foldl_nil],hI⟩
 | succ k ih =>
  intro i n s hi hI hn;obtain⟨n,rfl⟩:∃n',n=n'+1:=⟨n-1,by omega⟩
  have hlt:i<l.length:=by omega
  obtain⟨h1,h2⟩:=hs s i l[i] (List.getElem?_eq_getElem hlt) hI;rw[List.drop_eq_getElem_cons hlt,List.foldl_cons];simp only[bG,h1];exact ih (i+1) n _ (by omega) h2 (by omega)
theorem nS {α:Type} {body:τ→Option (τ ⊕ ρ)} (l:List α) (mk:σ→Int→τ) (step:σ→α→σ) (fin:σ→ρ) (I:Nat→σ→Prop)
  (hs:∀s i x,l[i]? = some x→I i s→body (mk s (i:Int))=some (.inl (mk (step s x) ((i+1:Nat):Int)))∧I (i+1) (step s x)) (he:∀s,I l.length s→body (mk s (l.length:Int))=some (.inr (fin s)))
  {n:Nat} {s:σ} (hI:I 0 s) (hn:l.length<n):bG body n (mk s 0)=some (fin (l.foldl step s))∧I l.length (l.foldl step s):=by
 have:=IX l mk step fin I hs he l.length 0 n s (by omega) hI hn
 simpa using this
theorem Js {body:τ→Option (τ ⊕ ρ)} (N:Nat) (mk:σ→Int→τ) (step:σ→Nat→σ) (fin:σ→ρ) (I:Nat→σ→Prop)
  (hs:∀s i,i<N→I i s→body (mk s (i:Int))=some (.inl (mk (step s i) ((i+1:Nat):Int)))∧I (i+1) (step s i)) (he:∀s,I N s→body (mk s (N:Int))=some (.inr (fin s)))
  {n:Nat} {s:σ} (hI:I 0 s) (hn:N<n):bG body n (mk s 0)=some (fin ((List.range N).foldl step s))∧I N ((List.range N).foldl step s):=by
 have:=nS (List.range N) mk step fin I (fun s i x hx hI=>by
  have hlt:=(List.getElem?_eq_some_iff.1 hx).1;have hx':x=i:=by rw[List.getElem?_eq_getElem hlt] at hx; simp at hx; exact hx.symm
  subst hx';exact hs s x (by simpa using hlt) hI) (by simpa using he) hI (by simpa using hn)
 simpa using this
end
theorem yM (f:Nat→Nat):∀(l:List Nat) (s i:Nat),(l.foldl (fun s k=>s ||| f k) s).testBit i=true↔s.testBit i=true∨∃k ∈ l,(f k).testBit i=true
 | [],s,i=>by simp
 | x::l,s,i=>by
  rw[List.foldl_cons,yM f l,Nat.testBit_or,Bool.or_eq_true];simp only[List.mem_cons];constructor
  ·rintro((h|h) | ⟨k,hk,h⟩)
   ·exact .inl h
   ·exact .inr ⟨x,.inl rfl,h⟩
   ·exact .inr ⟨k,.inr hk,h⟩
  ·rintro(h|⟨k,rfl|hk,h⟩)
   ·exact .inl (.inl h)
   ·exact .inl (.inr h)
   ·exact .inr ⟨k,hk,h⟩
theorem o5 (f:Nat→Nat):∀(l:List Nat) (s:Nat),s<2 ^ 64→(∀k ∈ l,f k<2 ^ 64)→l.foldl (fun s k=>s ||| f k) s<2 ^ 64
 | [],s,h,_=>h
 | x::l,s,h,hf=>o5 f l _ (j9 h (hf x (by simp))) fun k hk=>hf k (by simp[hk])
end Go.Ab.W
end

section
namespace Go.Proofs.YtookeaakpiefjaaDoor
open Go Go.Ab Go.Ab.W
section
variable {α β σ ρ : Type}
theorem bI (a b:Option β):br true a b=a:=rfl
theorem bK (a b:Option β):br false a b=b:=rfl
theorem aD (a:Option β):gd true a=a:=rfl
theorem ah (x:α) (f:α→Option β):ob (some x) f=f x:=rfl
theorem bB {p:Prop} [Decidable p] (h:p) (a b:Option β):br (decide p) a b=a:=by rw[decide_eq_true h]; rfl
theorem bf {p:Prop} [Decidable p] (h:¬p) (a b:Option β):br (decide p) a b=b:=by rw[decide_eq_false h]; rfl
theorem qT (c:Bool) (a b:Option β):br c a b=if c then a else b:=by cases c<;>rfl
theorem cM {p:Prop} [Decidable p] (h:p) (a:Option β):gd (decide p) a=a:=by rw[decide_eq_true h]; rfl
theorem aw {i n:Nat} (h:i<n):bE (i:Int) n=true:=decide_eq_true ⟨Int.natCast_nonneg i,by simpa using h⟩
theorem aR {x:Int} (h1 : -9223372036854775808≤x) (h2:x<9223372036854775808):IntKind.wrap .i64 x=x:=wrap_i64 x h1 (by omega)
theorem aH {i:Nat} (h:i<4611686018427387904):IntKind.wrap .i64 ((i:Int)+1)=((i+1:Nat):Int):=by rw[aR (by omega) (by omega)]; rfl
theorem aU {body:σ→Option (σ ⊕ ρ)} {n:Nat} {s s':σ} (h:body s=some (.inl s')):bG body (n+1) s=bG body n s':=by simp only[bG,h]
theorem aM {body:σ→Option (σ ⊕ ρ)} {n:Nat} {s:σ} {r:ρ} (h:body s=some (.inr r)):bG body (n+1) s=some r:=by simp only[bG,h]
end
def nX (N:Int):Int × Int→List (Int × Int)→Bool
 | _,[]=>true
 | p,e::es=>decide (0≤e.1∧e.1<e.2∧e.2<N) && decide (p.1<e.1∨p.1=e.1∧p.2<e.2) && nX N e es
def pN (N:Int) (es:List (Int × Int)):Bool:=decide (1≤N∧N≤64∧es.length≤200) && nX N (-1,-1) es
def Ll (N:Int) (es:List (Int × Int)):Int:=if pN N es then 0 else 180
theorem ME (n:Nat) (x:Int):M7 n x=some false:=by unfold M7; simp
theorem Gi (n:Nat) (x y:Int):O0 n x y=some (if x<y then -1 else if y<x then 1 else 0):=by
 unfold O0;simp only[ME,ah,bK];rw[qT,qT]
 by_cases h:x<y
 ·simp[h]
 ·by_cases h':y<x<;>simp[h,h']
theorem K2 (n:Nat) (a b c d:Int) (hn:2<n):ND n [a,b] [c,d]=some (if a<c then -1 else if c<a then 1 else if b<d then -1 else if d<b then 1 else 0):=by
 obtain⟨n,rfl⟩:∃n',n=n'+3:=⟨n-3,by omega⟩
 have L0:pj (n+3) [a,b] [c,d] 0=if a<c then some (.inr (.inl (-1))) else if c<a then some (.inr (.inl 1)) else some (.inl 1):=by
  unfold pj;simp only[List.length_cons,List.length_nil];rw[bB (by decide),show bE 0 (0+1+1)=true by decide,aD]
  simp only[Int.toNat_zero,List.getElem?_cons_zero,ah];rw[bf (by decide),aD]
  simp only[Gi,ah]
  by_cases h:a<c
  ·simp[h,bI]
  ·by_cases h':c<a
   ·simp[h,h',bI]
   ·simp only[h,h',if_false,decide_true,Bool.not_true,bK];rw[aR (by decide) (by decide)]; rfl
 have L1:pj (n+3) [a,b] [c,d] 1=if b<d then some (.inr (.inl (-1))) else if d<b then some (.inr (.inl 1)) else some (.inl 2):=by
  unfold pj;simp only[List.length_cons,List.length_nil];rw[bB (by decide),show bE 1 (0+1+1)=true by decide,aD]
  simp only[show(1:Int).toNat=1 from rfl,List.getElem?_cons_succ,List.getElem?_cons_zero,ah]
  rw[bf (by decide),aD]
  simp only[Gi,ah]
  by_cases h:b<d
  ·simp[h,bI]
  ·by_cases h':d<b
   ·simp[h,h',bI]
   ·simp only[h,h',if_false,decide_true,Bool.not_true,bK];rw[aR (by decide) (by decide)]; rfl
 have L2:pj (n+3) [a,b] [c,d] 2=some (.inr (.inr ())):=by
  unfold pj;simp only[List.length_cons,List.length_nil];rw[bf (by decide)]
 unfold ND
 by_cases h1:a<c
 ·rw[if_pos h1] at L0 ⊢;rw[aM L0]; rfl
 ·rw[if_neg h1] at L0 ⊢
  by_cases h2:c<a
  ·rw[if_pos h2] at L0 ⊢;rw[aM L0]; rfl
  ·rw[if_neg h2] at L0 ⊢;rw[aU L0]
   by_cases h3:b<d
   ·rw[if_pos h3] at L1 ⊢;rw[aM L1]; rfl
   ·rw[if_neg h3] at L1 ⊢
    by_cases h4:d<b
    ·rw[if_pos h4] at L1 ⊢;rw[aM L1]; rfl
    ·rw[if_neg h4] at L1 ⊢;rw[aU L1,aM L2,ah];simp only[List.length_cons,List.length_nil]
     rfl
def da (N:Int) (p e:Int × Int):Bool:=decide (0≤e.1∧e.1<e.2∧e.2<N) && decide (p.1<e.1∨p.1=e.1∧p.2<e.2)
theorem iX (N:Int) (p e:Int × Int) (es:List (Int × Int)):nX N p (e::es)=(da N p e && nX N e es):=rfl
theorem Fe (n:Nat) (l2:List (Int × Int)) (N:Int) (p:Int × Int) (i:Nat) (e:Int × Int) (hn:2<n) (hi:l2[i]? = some e) (hb:i<4611686018427387904) :
  qF n l2 N (p.1,p.2,(i:Int))=if da N p e then some (.inl (e.1,e.2,((i+1:Nat):Int))) else some (.inr (.inl ())):=by
 obtain⟨p1,p2⟩:=p;obtain⟨a,b⟩:=e;have a1:i<l2.length:=(List.getElem?_eq_some_iff.1 hi).1;have e1:l2[((i:Nat):Int).toNat]? = some (a,b):=by simpa using hi
 have c1:decide (((i:Nat):Int)<(l2.length:Int))=true:=decide_eq_true (by omega)
 simp only[qF,c1,bI,aw a1,aD,e1,ah,K2 n _ _ _ _ hn,aH hb]
 by_cases h1:a<0
 ·have:da N (p1,p2) (a,b)=false:=by simp[da]; omega
  rw[this,bB h1,ah,bI]; rfl
 ·rw[bf h1]
  by_cases h2:b≤a
  ·have:da N (p1,p2) (a,b)=false:=by simp[da]; omega
   rw[this,bB h2,ah,bI]; rfl
  ·rw[bf h2]
   by_cases h3:N≤b
   ·have:da N (p1,p2) (a,b)=false:=by simp[da]; omega
    rw[this,bB h3,ah,bI]; rfl
   ·rw[bf h3,ah]
    by_cases h4:p1<a∨p1=a∧p2<b
    ·have:da N (p1,p2) (a,b)=true:=by simp[da]; omega
     have h5:¬(0≤(if p1<a then(-1:Int) else if a<p1 then 1 else if p2<b then -1 else if b<p2 then 1 else 0)):=by
      rcases h4 with h4|⟨h4,h5⟩
      ·rw[if_pos h4]; decide
      ·rw[if_neg (by omega),if_neg (by omega),if_pos h5]; decide
     rw[this,bf h5]; rfl
    ·have:da N (p1,p2) (a,b)=false:=by simp[da]; omega
     have h5:0≤(if p1<a then(-1:Int) else if a<p1 then 1 else if p2<b then -1 else if b<p2 then 1 else 0):=by
      rw[if_neg (by omega)]
      by_cases h6:a<p1
      ·rw[if_pos h6]; decide
      ·rw[if_neg h6,if_neg (by omega)]; split<;>decide
     rw[this,bB h5]; rfl
theorem KL (n0:Nat) (l2:List (Int × Int)) (N:Int) (hn:2<n0) (hl:l2.length<4611686018427387904):∀k i p n,i+k=l2.length→k<n→bG (qF n0 l2 N) n (p.1,p.2,(i:Int))=some (if nX N p (l2.drop i) then .inr () else .inl ()):=by
 intro k
 induction k with
 | zero =>
  intro i p n hi hk;obtain⟨n,rfl⟩:∃n',n=n'+1:=⟨n-1,by omega⟩
  rw[List.drop_of_length_le (by omega)]
  exact aM (by simp only[qF]; rw[bf (by omega)]; rfl)
 | succ k ih =>
  intro i p n hi hk;obtain⟨n,rfl⟩:∃n',n=n'+1:=⟨n-1,by omega⟩
  have a1:i<l2.length:=by omega
  have hs:=Fe n0 l2 N p i l2[i] hn (by simp[a1]) (by omega)
  rw[List.drop_eq_getElem_cons a1,iX]
  by_cases h:da N p l2[i]=true
  ·rw[if_pos h] at hs;rw[aU hs,ih (i+1) l2[i] n (by omega) (by omega),h,Bool.true_and]
  ·rw[if_neg h] at hs;rw[aM hs];simp only[Bool.not_eq_true] at h;rw[h]; rfl
theorem head_eq (N:Int) (len:Nat):(br (decide (N<1)) (some true) (br (decide (64<N)) (some true) (some (decide (200<(len:Int))))))=some (!decide (1≤N∧N≤64∧len≤200)):=by
 rw[qT,qT]
 by_cases h1:N<1
 ·have:¬(1≤N∧N≤64∧len≤200):=by omega
  simp[h1,this]
 ·by_cases h2:64<N
  ·have:¬(1≤N∧N≤64∧len≤200):=by omega
   simp[h1,h2,this]
  ·by_cases h3:200<(len:Int)
   ·have:¬(1≤N∧N≤64∧len≤200):=by omega
    simp only[h1,h2,h3,this,decide_true,decide_false,Bool.false_eq_true,if_false,Bool.not_false]
   ·have:(1≤N∧N≤64∧len≤200):=by omega
    simp only[h1,h2,h3,this,decide_true,decide_false,Bool.false_eq_true,if_false,Bool.not_true,and_self]
theorem AJ (n:Nat) (N:Int) (es:List (Int × Int)) (hn:2<n) (hl:es.length<4611686018427387904) (hk:es.length<n):Ni n N es=some (Ll N es):=by
 unfold Ni;rw[head_eq,ah];unfold Ll pN
 by_cases h:1≤N∧N≤64∧es.length≤200
 ·rw[decide_eq_true h,Bool.not_true,bK,Bool.true_and];have:=KL n es N hn hl es.length 0 (-1,-1) n (by omega) hk
  rw[List.drop_zero] at this;rw[show bG (qF n es N) n (-1,-1,0)=_ from this,ah]
  by_cases h2:nX N (-1,-1) es=true
  ·rw[if_pos h2,if_pos h2]
  ·rw[if_neg h2,if_neg h2]
 ·rw[decide_eq_false h,Bool.not_false,bI,Bool.false_and]; rfl
theorem wS {σ ρ:Type} {body:σ→Option (σ ⊕ ρ)} {R:ρ→Prop} (I:Nat→σ→Prop) (h:∀k s,I k s→(∃s',body s=some (.inl s')∧∃k',k'<k∧I k' s')∨∃r,body s=some (.inr r)∧R r):∀k s n,I k s→k<n→∃r,bG body n s=some r∧R r:=by
 intro k
 induction k using Nat.strongRecOn with
 | _ k ih =>
  intro s n hI hk;obtain⟨n,rfl⟩:∃n',n=n'+1:=⟨n-1,by omega⟩
  rcases h k s hI with⟨s',h1,k',h2,h3⟩|⟨r,h1,h2⟩
  ·obtain⟨r,h4,h5⟩:=ih k' h2 s' n h3 (by omega)
   exact⟨r,by rw[aU h1]; exact h4,h5⟩
  ·exact⟨r,aM h1,h2⟩
theorem gx {c:Bool} {a b:Option Bool} (ha:c=true→∃x,a=some x) (hb:c=false→∃x,b=some x):∃x,br c a b=some x:=by
 cases c with
 | true=>exact ha rfl
 | false=>exact hb rfl
theorem gb (x:Bool):∃y,some x=some y:=⟨x,rfl⟩
theorem ga {n:Nat} (h:n≤1073741824):nK n=true:=Nat.ble_eq_true_of_le h
theorem Fm (n0:Nat) (l4:List (Nat × Nat)) (N a b:Int) (hN:N≠0) (v:Bool) (n:Nat) (hn:3<n):∃r,bG (FQ n0 l4 N a b) n (v,0)=some r:=by
 obtain⟨r,h,_⟩:=wS (body:=FQ n0 l4 N a b) (R:=fun _=>True) (fun k s=>0≤s.2∧s.2+k=3) (fun k s hI=>by
  obtain⟨v,i⟩:=s;obtain⟨h1,h2⟩:=hI;simp only at h1 h2;simp only[FQ]
  by_cases c1:i<(l4.length:Int)
  ·rw[bB c1,ah]
   by_cases c2:i<3
   ·rw[decide_eq_true c2,bI];have hb:bE i l4.length=true:=decide_eq_true ⟨h1,by omega⟩
    have hlt:i.toNat<l4.length:=by omega
    have he:l4[i.toNat]? = some l4[i.toNat]:=by simp[hlt]
    rw[hb,aD,he,ah];generalize l4[i.toNat]=e;obtain⟨x,y⟩:=e;simp only[aD];rw[cM hN,cM hN];have:∃z,br v (some true) (br (decide (Int.tmod (IntKind.wrap .i64 ((x:Nat):Int)) N=a)) (br (decide (Int.tmod (IntKind.wrap .i64 ((y:Nat):Int)) N=b)) (some true) (br (decide (Int.tmod (IntKind.wrap .i64 ((x:Nat):Int)) N=b)) (some (decide (Int.tmod (IntKind.wrap .i64 ((y:Nat):Int)) N=a))) (some false))) (br (decide (Int.tmod (IntKind.wrap .i64 ((x:Nat):Int)) N=b)) (some (decide (Int.tmod (IntKind.wrap .i64 ((y:Nat):Int)) N=a))) (some false)))=some z :=
     gx (fun _=>gb _) fun _=>gx (fun _=>gx (fun _=>gb _) fun _=>gx (fun _=>gb _) fun _=>gb _) fun _=>gx (fun _=>gb _) fun _=>gb _
    obtain⟨z,hz⟩:=this;refine .inl ⟨(z,i+1),?_,k-1,by omega,by simp only; omega,by simp only; omega⟩
    rw[hz,ah,aR (by omega) (by omega)]
   ·rw[decide_eq_false c2,bK]; exact .inr ⟨v,rfl,trivial⟩
  ·rw[bf c1,ah,bK]; exact .inr ⟨v,rfl,trivial⟩) 3 (v,0) n ⟨by simp,by simp⟩ hn
 exact⟨r,h⟩
def Ck (es:List (Int × Int)) (i j:Nat):Prop:=((i:Int),(j:Int)) ∈ es∨((j:Int),(i:Int)) ∈ es
theorem BY {N:Int}:∀{es:List (Int × Int)} {p:Int × Int},nX N p es=true→∀e ∈ es,0≤e.1∧e.1<e.2∧e.2<N
 | [],_,_,e,he=>by cases he
 | x::es,p,h,e,he=>by
  rw[iX,Bool.and_eq_true] at h;rcases List.mem_cons.1 he with rfl|he
  ·simp only[da,Bool.and_eq_true,decide_eq_true_eq] at h;exact h.1.1
  ·exact BY h.2 e he
structure Okay (N:Nat) (es:List (Int × Int)):Prop where
 pos:1≤N
 le:N≤64
 len:es.length≤200
 mem:∀e ∈ es,∃a b:Nat,e=((a:Int),(b:Int))∧a<b∧b<N
theorem p7 {N:Int} {es:List (Int × Int)} (h:pN N es=true):∃M:Nat,N=(M:Int)∧Okay M es:=by
 simp only[pN,Bool.and_eq_true,decide_eq_true_eq] at h;obtain⟨⟨h1,h2,h3⟩,h4⟩:=h;obtain⟨M,rfl⟩:=Int.eq_ofNat_of_zero_le (show 0≤N by omega)
 refine⟨M,rfl,by omega,by omega,h3,fun e he=>?_⟩
 obtain⟨g1,g2,g3⟩:=BY h4 e he;obtain⟨a,b⟩:=e;obtain⟨a,rfl⟩:=Int.eq_ofNat_of_zero_le (show 0≤a from g1)
 obtain⟨b,rfl⟩:=Int.eq_ofNat_of_zero_le (show 0≤b by simp only at g1 g2; omega)
 exact⟨a,b,rfl,by simp only at g2; omega,by simp only at g3; omega⟩
theorem Okay.Ck {N:Nat} {es:List (Int × Int)} (h:Okay N es) {i j:Nat} (ha:Ck es i j):i<N∧j<N∧i≠j:=by
 rcases ha with ha|ha
 ·obtain⟨a,b,e,h1,h2⟩:=h.mem _ ha;simp only[Prod.mk.injEq,Int.natCast_inj] at e;omega
 ·obtain⟨a,b,e,h1,h2⟩:=h.mem _ ha;simp only[Prod.mk.injEq,Int.natCast_inj] at e;omega
def bl (x:Nat):Nat:=if x=0 then 0 else Nat.log2 x+1
theorem ja {x k:Nat}:k<bl x↔2 ^ k≤x:=by
 unfold bl
 by_cases h:x=0
 ·subst h;rw[if_pos rfl];have:=Nat.two_pow_pos k;omega
 ·rw[if_neg h,Nat.lt_succ_iff,Nat.le_log2 h]
theorem CT {x m:Nat} (h:∀k,k<m↔2 ^ k≤x):m=bl x:=by
 rcases Nat.lt_trichotomy m (bl x) with h1|h1|h1
 ·have:=(h m).2 (ja.1 h1); omega
 ·exact h1
 ·have:=ja.2 ((h (bl x)).1 h1); omega
theorem E4 {x s:Nat} (h:2 ^ s≤x):bl (x >>> s)+s=bl x:=by
 refine CT fun k=>?_;rw[Nat.shiftRight_eq_div_pow]
 by_cases hk:k<s
 ·have:2 ^ k≤2 ^ s:=Nat.pow_le_pow_right (by decide) (by omega)
  constructor
  ·intro _; omega
  ·intro _; omega
 ·obtain⟨d,rfl⟩:∃d,k=d+s:=⟨k-s,by omega⟩
  have h1:=ja (x:=x/2 ^ s) (k:=d);have h2:2 ^ (d+s)≤x↔2 ^ d≤x/2 ^ s:=by rw[Nat.pow_add,Nat.le_div_iff_mul_le (Nat.two_pow_pos s)]
  rw[h2,←h1]; omega
theorem Mo:∀y:Fin 256,fD[y.val]? = some (bl y.val):=by decide +kernel
theorem Kh {x s:Nat} (h:x<2 ^ s):bl x≤s:=by
 rcases Nat.lt_or_ge s (bl x) with h1|h1
 ·have:=ja.1 h1; omega
 ·exact h1
theorem rj (s y m:Nat) (hs:s≤32) (hy:y<2 ^ (2*s)) (hm:m≤64):∃y' m':Nat,br (decide (2 ^ s≤y)) (some (bu .u64 y s,IntKind.wrap .i64 ((m:Int)+(s:Int)))) (some (y,(m:Int)))=some (y',(m':Int))∧y'<2 ^ s∧bl y'+m'=bl y+m∧m'≤m+s:=by
 by_cases h:2 ^ s≤y
 ·refine⟨y >>> s,m+s,?_,?_,?_,Nat.le_refl _⟩
  ·rw[bB h,fW (by omega),aR (by omega) (by omega)]; rfl
  ·rw[Nat.shiftRight_eq_div_pow,Nat.div_lt_iff_lt_mul (Nat.two_pow_pos s),←Nat.pow_add];rw[Nat.two_mul] at hy; exact hy
  ·have:=E4 h; omega
 ·exact⟨y,m,bf h _ _,by omega,rfl,by omega⟩
theorem wh (n x:Nat) (hx:x<2 ^ 64):K0 n x=some ((bl x:Nat):Int):=by
 unfold K0;obtain⟨y1,m1,e1,h1,b1,g1⟩:=rj 32 x 0 (by omega) hx (by omega)
 have e1':br (decide (4294967296≤x)) (some (bu .u64 x 32,(32:Int))) (some (x,0))=some (y1,(m1:Int)):=e1;rw[e1',ah];obtain⟨y2,m2,e2,h2,b2,g2⟩:=rj 16 y1 m1 (by omega) h1 (by omega)
 have e2':br (decide (65536≤y1)) (some (bu .u64 y1 16,IntKind.wrap .i64 ((m1:Int)+16))) (some (y1,(m1:Int)))=some (y2,(m2:Int)):=e2;simp only[e2',ah];obtain⟨y3,m3,e3,h3,b3,g3⟩:=rj 8 y2 m2 (by omega) h2 (by omega)
 have e3':br (decide (256≤y2)) (some (bu .u64 y2 8,IntKind.wrap .i64 ((m2:Int)+8))) (some (y2,(m2:Int)))=some (y3,(m3:Int)):=e3;simp only[e3',ah];have h3:y3<256:=h3;have e:uw .u8 y3=y3:=Nat.mod_eq_of_lt h3;have h8:bl y3≤8:=Kh h3;have ht:fD[y3]? = some (bl y3):=Mo ⟨y3,h3⟩;have w1:IntKind.wrap .i64 ((bl y3:Nat):Int)=((bl y3:Nat):Int):=aR (by omega) (by omega)
 rw[e,aw h3,aD,Int.toNat_natCast,ht,ah,w1,aR (by omega) (by omega)]
 simp only[Option.some.injEq]; omega
theorem kR (n x i:Nat) (hx:x<2 ^ 64) (hi:i<64):F1 n x ((i:Nat):Int)=some (x.testBit i):=by
 unfold F1;rw[J2 (by omega) (by omega),Int.toNat_natCast,jH hx (by omega)]
theorem uP (n i:Nat) (hi:i<64):J3 n ((i:Nat):Int)=some (2 ^ i):=by
 unfold J3;rw[J2 (by omega) (by omega),Int.toNat_natCast,gK hi]
inductive Rch (es:List (Int × Int)) (S:Nat) (i:Nat):Nat→Prop
 | refl:Rch es S i i
 | step {j k:Nat} (h:Rch es S i j) (ha:Ck es j k) (hk:S.testBit k=true):Rch es S i k
theorem Rch.mem {es:List (Int × Int)} {S i j:Nat} (h:Rch es S i j) (hi:S.testBit i=true):S.testBit j=true:=by
 cases h with
 | refl=>exact hi
 | step _ _ hk=>exact hk
theorem Rch.trans {es:List (Int × Int)} {S i j k:Nat} (h:Rch es S i j) (h':Rch es S j k):Rch es S i k:=by
 induction h' with
 | refl=>exact h
 | step _ ha hk ih=>exact .step ih ha hk
def Fx (es:List (Int × Int)) (S i w:Nat):Prop:=w<2 ^ 64∧∀j,w.testBit j=true↔Rch es S i j
inductive Cs (es:List (Int × Int)) (S:Nat):Nat→List Nat→Prop
 | nil:Cs es S 0 []
 | cons {r w:Nat} {L:List Nat} (h0:0<r) (hr:r<2 ^ 64) (hw:Fx es S (tz r) w) (t:Cs es S (dU .u64 r w) L):Cs es S r (w::L)
def bW (x t:Nat):List Nat:=(List.range t).filter fun i=>x.testBit i
def rk (x v:Nat):Nat:=(bW x v).length
theorem dO (x t:Nat):(bW x t).length≤t:=Nat.le_trans (List.length_filter_le _ _) (by simp)
theorem km (x t:Nat):bW x (t+1)=bW x t++(if x.testBit t then[t] else[]):=by
 unfold bW;rw[List.range_succ,List.filter_append]
 by_cases h:x.testBit t<;>simp[h]
theorem bT {x t v:Nat}:v ∈ bW x t↔v<t∧x.testBit v=true:=by simp[bW]
theorem GF {σ ρ τ:Type} {body:τ→Option (τ ⊕ ρ)} (N:Nat) (mk:σ→Int→τ) (fin:σ→ρ) (I:Nat→σ→Prop)
  (hs:∀s i,i<N→I i s→∃s',body (mk s (i:Int))=some (.inl (mk s' ((i+1:Nat):Int)))∧I (i+1) s') (he:∀s,I N s→body (mk s (N:Int))=some (.inr (fin s))) :
  ∀(k i n:Nat) (s:σ),i+k=N→I i s→k<n→∃s',bG body n (mk s (i:Int))=some (fin s')∧I N s':=by
 intro k
 induction k with
 | zero =>
  intro i n s hi hI hn;obtain⟨n,rfl⟩:∃n',n=n'+1:=⟨n-1,by omega⟩
  have:i=N:=by omega
  subst this;exact⟨s,by simp only[bG,he s hI],hI⟩
 | succ k ih =>
  intro i n s hi hI hn;obtain⟨n,rfl⟩:∃n',n=n'+1:=⟨n-1,by omega⟩
  obtain⟨s',h1,h2⟩:=hs s i (by omega) hI
  simp only[bG,h1];exact ih (i+1) n s' (by omega) h2 (by omega)
theorem gE {σ ρ τ:Type} {body:τ→Option (τ ⊕ ρ)} (N:Nat) (mk:σ→Int→τ) (fin:σ→ρ) (I:Nat→σ→Prop)
  (hs:∀s i,i<N→I i s→∃s',body (mk s (i:Int))=some (.inl (mk s' ((i+1:Nat):Int)))∧I (i+1) s') (he:∀s,I N s→body (mk s (N:Int))=some (.inr (fin s)))
  {n:Nat} {s:σ} (hI:I 0 s) (hn:N<n):∃s',bG body n (mk s 0)=some (fin s')∧I N s' :=
 GF N mk fin I hs he N 0 n s (by omega) hI hn
theorem Ft (n x:Nat) (hx:x<2 ^ 64) (hn:64<n):Na n x=some ((rk x 64:Nat):Int):=by
 have:=gE (body:=w8 n x) 64 (fun(s:Int) (v:Int)=>(s,v)) id (fun i s=>s=((rk x i:Nat):Int)) (fun s i hi hI=>?_) (fun s _=>?_) (n:=n) (s:=0) rfl hn
 ·obtain⟨s,h1,h2⟩:=this;unfold Na;simp only[h1,ah,id,h2]
 ·subst hI;have hle:rk x i≤i:=dO _ _;refine⟨((rk x (i+1):Nat):Int),?_,rfl⟩;unfold w8;simp only[decide_eq_true (show((i:Nat):Int)<64 by omega),bI,kR n x i hx hi,ah,aH (show i<4611686018427387904 by omega)]
  have e:rk x (i+1)=rk x i+(if x.testBit i then 1 else 0):=by
   unfold rk; rw[km,List.length_append]; split<;>simp
  rw[e]
  by_cases hb:x.testBit i
  ·rw[hb,bI,aH (by omega),ah,if_pos rfl]
  ·rw[Bool.not_eq_true] at hb;rw[hb,bK,ah]; simp
 ·unfold w8;simp[br]
def lexLt (p q:Int × Int):Prop:=p.1<q.1∨p.1=q.1∧p.2<q.2
section
variable {n0 M : Nat} {l6 : List Int} {es : List (Int × Int)}
end
def val (w:Nat):List Nat→Nat
 | []=>0
 | d::ds=>d+2 ^ w*val w ds
theorem oK {k a b c d:Nat} (ha:a<2 ^ k) (hc:c<2 ^ k):(a+2 ^ k*b) &&& (c+2 ^ k*d)=(a &&& c)+2 ^ k*(b &&& d):=by
 have hac:a &&& c<2 ^ k:=Nat.lt_of_le_of_lt Nat.and_le_left ha;refine Nat.eq_of_testBit_eq fun i=>?_;rw[Nat.testBit_and,Nat.add_comm a,Nat.add_comm c,Nat.add_comm (a &&& c),Nat.testBit_two_pow_mul_add _ ha,Nat.testBit_two_pow_mul_add _ hc,Nat.testBit_two_pow_mul_add _ hac]
 split<;>rw[Nat.testBit_and]
def Gp (w:Nat):Nat→Nat
 | 0=>0
 | n+1=>(2 ^ w-1)+2 ^ (2*w)*Gp w n
def pairUp:List Nat→List Nat
 | a::b::r=>(a+b)::pairUp r
 | [a]=>[a]
 | []=>[]
theorem JC (w:Nat):2 ^ (2*w)=2 ^ w*2 ^ w:=by rw[←Nat.pow_add]; congr 1; omega
theorem ug (w a b:Nat) (r:List Nat):val w (a::b::r)=(a+2 ^ w*b)+2 ^ (2*w)*val w r:=by
 simp only[val,JC,Nat.mul_add,Nat.mul_assoc]; omega
theorem GU {w a b:Nat} (ha:a<2 ^ w) (hb:b<2 ^ w):a+2 ^ w*b<2 ^ (2*w):=by
 have h2:2 ^ w*(b+1)≤2 ^ w*2 ^ w:=Nat.mul_le_mul_left _ hb;rw[JC];rw[Nat.mul_add,Nat.mul_one] at h2;omega
theorem wG {w a b:Nat} (ha:a<2 ^ w):(a+2 ^ w*b) &&& (2 ^ w-1)=a:=by
 rw[Nat.and_two_pow_sub_one_eq_mod,Nat.add_mul_mod_self_left,Nat.mod_eq_of_lt ha]
theorem wN (w:Nat):2 ^ w-1<2 ^ (2*w):=by
 have:=Nat.two_pow_pos w;have:2 ^ w≤2 ^ (2*w):=Nat.pow_le_pow_right (by decide) (by omega)
 omega
theorem pn (w a b V:Nat) (ha:a<2 ^ w):((a+2 ^ w*b)+2 ^ (2*w)*V) >>> w=(b+2 ^ w*(V%2 ^ w))+2 ^ (2*w)*(V >>> w):=by
 have h1:(a+2 ^ w*b)+2 ^ (2*w)*V=a+2 ^ w*(b+2 ^ w*V):=by
  rw[JC,Nat.mul_add,Nat.mul_assoc]; omega
 rw[h1,Nat.shiftRight_eq_div_pow,Nat.add_mul_div_left _ _ (Nat.two_pow_pos w),Nat.div_eq_of_lt ha,Nat.zero_add,Nat.shiftRight_eq_div_pow,JC];have h2:=Nat.mod_add_div V (2 ^ w);rw[Nat.mul_assoc,Nat.add_assoc,←Nat.mul_add,h2]
theorem rz (w:Nat):∀(n:Nat) (ds:List Nat),ds.length=2*n→(∀d ∈ ds,d<2 ^ w)→((val w ds >>> w) &&& Gp w n)+(val w ds &&& Gp w n)=val (2*w) (pairUp ds)
 | 0,ds,h,_=>by
  have:ds = []:=List.eq_nil_of_length_eq_zero (by omega)
  subst this;simp[val,Gp,pairUp]
 | n+1,a::b::r,h,hd=>by
  have ha:=hd a (by simp)
  have hb:=hd b (by simp)
  have ih:=rz w n r (by simp at h; omega) fun d hd'=>hd d (by simp[hd'])
  have hm:val w r%2 ^ w<2 ^ w:=Nat.mod_lt _ (Nat.two_pow_pos w);rw[ug,pn w a b _ ha];simp only[Gp,pairUp];rw[oK (GU hb hm) (wN w),oK (GU ha hb) (wN w),wG hb,wG ha]
  show _=(a+b)+2 ^ (2*w)*val (2*w) (pairUp r)
  rw[←ih,Nat.mul_add];omega
 | n+1,[],h,_=>by simp at h
 | n+1,[_],h,_=>by simp at h; omega
theorem val_mod {w B:Nat} (hB:B≤2 ^ w) (h0:0<B):∀(ds:List Nat),(∀d ∈ ds,d<B)→val w ds%2 ^ w<B
 | [],_=>by simpa [val] using h0
 | d::ds,h=>by
  have:=h d (by simp)
  simp only[val];rw[Nat.add_mul_mod_self_left,Nat.mod_eq_of_lt (by omega)]; exact this
theorem tK (w B:Nat) (hB:2*B≤2 ^ w) (h0:0<B):∀(n:Nat) (ds:List Nat),ds.length=2*n→(∀d ∈ ds,d<B)→((val w ds >>> w)+val w ds) &&& Gp w n=val (2*w) (pairUp ds)
 | 0,ds,h,_=>by
  have:ds = []:=List.eq_nil_of_length_eq_zero (by omega)
  subst this;simp[val,Gp,pairUp]
 | n+1,a::b::r,h,hd=>by
  have ha:=hd a (by simp)
  have hb:=hd b (by simp)
  have ih:=tK w B hB h0 n r (by simp at h; omega) fun d hd'=>hd d (by simp[hd'])
  have hm:val w r%2 ^ w<B:=val_mod (by omega) h0 r fun d hd'=>hd d (by simp[hd'])
  rw[ug,pn w a b _ (by omega)]
  have e:(b+2 ^ w*(val w r%2 ^ w))+2 ^ (2*w)*(val w r >>> w)+((a+2 ^ w*b)+2 ^ (2*w)*val w r)=((a+b)+2 ^ w*(val w r%2 ^ w+b))+2 ^ (2*w)*((val w r >>> w)+val w r):=by
   simp only[Nat.mul_add]; omega
  rw[e];simp only[Gp,pairUp];rw[oK (GU (by omega) (by omega)) (wN w),wG (by omega),ih]
  rfl
 | n+1,[],h,_=>by simp at h
 | n+1,[_],h,_=>by simp at h; omega
theorem jr:∀ds:List Nat,(pairUp ds).sum=ds.sum
 | []=>rfl
 | [_]=>rfl
 | a::b::r=>by simp only[pairUp,List.sum_cons,jr r]; omega
theorem jJ:∀(n:Nat) (ds:List Nat),ds.length=2*n→(pairUp ds).length=n
 | 0,ds,h=>by
  have:ds = []:=List.eq_nil_of_length_eq_zero (by omega)
  subst this; rfl
 | n+1,a::b::r,h=>by simp only[pairUp,List.length_cons]; rw[jJ n r (by simp at h; omega)]
 | n+1,[],h=>by simp at h
 | n+1,[_],h=>by simp at h; omega
theorem lz {B:Nat}:∀(ds:List Nat),(∀d ∈ ds,d≤B)→∀d ∈ pairUp ds,d≤2*B
 | [],_,d,hd=>by simp[pairUp] at hd
 | [a],h,d,hd=>by simp[pairUp] at hd; subst hd; have:=h d (by simp); omega
 | a::b::r,h,d,hd=>by
  simp only[pairUp,List.mem_cons] at hd;have h1:=h a (by simp)
  have h2:=h b (by simp)
  rcases hd with rfl|hd
  ·omega
  ·exact lz r (fun x hx=>h x (by simp[hx])) d hd
theorem Ar {w:Nat}:∀(ds:List Nat),(∀d ∈ ds,d<2 ^ w)→val w ds<2 ^ (w*ds.length)
 | [],_=>by simp[val]
 | d::ds,h=>by
  have h1:=h d (by simp)
  have ih:=Ar ds fun x hx=>h x (by simp[hx])
  simp only[val,List.length_cons];rw[Nat.mul_add,Nat.mul_one,Nat.add_comm (w*ds.length) w,Nat.pow_add];have h2:2 ^ w*(val w ds+1)≤2 ^ w*2 ^ (w*ds.length):=Nat.mul_le_mul_left _ ih;rw[Nat.mul_add,Nat.mul_one] at h2;omega
def qD (x:Nat):Nat→List Nat
 | 0=>[]
 | n+1=>x%2::qD (x/2) n
theorem xA:∀(n x:Nat),x<2 ^ n→val 1 (qD x n)=x
 | 0,x,h=>by simp at h; subst h; rfl
 | n+1,x,h=>by
  simp only[qD,val,Nat.pow_one];rw[xA n (x/2) (by rw[Nat.pow_succ] at h; omega)]
  omega
theorem yV:∀(n x:Nat),(qD x n).length=n
 | 0,_=>rfl
 | n+1,x=>by simp only[qD,List.length_cons,yV n]
theorem Bi:∀(n x:Nat),∀d ∈ qD x n,d≤1
 | 0,_,d,h=>by simp[qD] at h
 | n+1,x,d,h=>by
  simp only[qD,List.mem_cons] at h;rcases h with rfl|h
  ·omega
  ·exact Bi n _ d h
theorem tW (x:Nat):∀n,(bW x (n+1)).length=x%2+(bW (x/2) n).length
 | 0=>by
  rw[km];have:x.testBit 0=decide (x%2=1):=Nat.testBit_zero x;rw[this]
  by_cases h:x%2=1
  ·simp[h,bW]
  ·have:x%2=0:=by omega
   simp[this,bW]
 | n+1=>by
  rw[km,List.length_append,tW x n,km (x/2) n,List.length_append];have:x.testBit (n+1)=(x/2).testBit n:=Nat.testBit_succ x n;rw[this]
  split<;>simp<;>omega
theorem za:∀(n x:Nat),(qD x n).sum=(bW x n).length
 | 0,x=>rfl
 | n+1,x=>by simp only[qD,List.sum_cons,za n,tW]
theorem Hb {w B:Nat}:∀(ds:List Nat),(∀d ∈ ds,d≤B)→val w ds*(2 ^ w-1)+B≤B*2 ^ (w*ds.length)
 | [],_=>by simp[val]
 | d::ds,h=>by
  have h1:=h d (by simp)
  have ih:=Hb (w:=w) ds fun x hx=>h x (by simp[hx])
  have hp:=Nat.two_pow_pos w;simp only[val,List.length_cons];rw[Nat.mul_add,Nat.mul_one,Nat.add_comm (w*ds.length) w,Nat.pow_add];have h2:2 ^ w*(val w ds*(2 ^ w-1)+B)≤2 ^ w*(B*2 ^ (w*ds.length)):=Nat.mul_le_mul_left _ ih;have h3:d*(2 ^ w-1)≤B*(2 ^ w-1):=Nat.mul_le_mul_right _ h1;have h4:B*(2 ^ w-1)+B=2 ^ w*B:=by
   rw[Nat.mul_sub,Nat.mul_one,Nat.sub_add_cancel (Nat.le_mul_of_pos_right _ hp),Nat.mul_comm]
  have h5:B*(2 ^ w*2 ^ (w*ds.length))=2 ^ w*(B*2 ^ (w*ds.length)):=by rw[Nat.mul_left_comm]
  rw[Nat.mul_add,←Nat.mul_assoc] at h2;rw[Nat.add_mul,h5];omega
theorem Hq {a k b:Nat} (hk:k≤64) (h:a/2 ^ k=b):bu .u64 a k=b:=by rw[fW hk,Nat.shiftRight_eq_div_pow,h]
theorem CU (c0 c1 c2 c3 c4 c5 c6 c7:Nat) (g0:c0≤8) (g1:c1≤8) (g2:c2≤8) (g3:c3≤8) (g4:c4≤8) (g5:c5≤8) (g6:c6≤8) (g7:c7≤8) (y:Nat) (hy:y=c0+256*(c1+256*(c2+256*(c3+256*(c4+256*(c5+256*(c6+256*c7))))))) :
  ∃z u K,uw .u64 (y+bu .u64 y 8)=z∧uw .u64 (z+bu .u64 z 16)=u∧uw .u64 (u+bu .u64 u 32)=(c0+c1+c2+c3+c4+c5+c6+c7)+256*K∧K<2 ^ 54:=by
 obtain⟨a1,ha1⟩:∃a,a=c1+256*(c2+256*(c3+256*(c4+256*(c5+256*(c6+256*c7))))):=⟨_,rfl⟩;have e1:bu .u64 y 8=a1:=Hq (by decide) (by rw[hy,←ha1]; omega)
 have hz:uw .u64 (y+bu .u64 y 8)=y+a1:=by rw[e1]; exact ef (by omega)
 obtain⟨b,hb⟩:∃b,b=(c2+c3)+256*((c3+c4)+256*((c4+c5)+256*((c5+c6)+256*((c6+c7)+256*c7)))):=⟨_,rfl⟩;have hzb:y+a1=((c0+c1)+256*(c1+c2))+65536*b:=by omega
 have e2:bu .u64 (y+a1) 16=b:=Hq (by decide) (by rw[hzb]; omega)
 have hu:uw .u64 ((y+a1)+bu .u64 (y+a1) 16)=(y+a1)+b:=by rw[e2]; exact ef (by omega)
 obtain⟨d,hd⟩:∃d,d=(c4+c5+c6+c7)+256*((c5+c6+c7)+256*((c6+c7)+256*c7)):=⟨_,rfl⟩;have hud:(y+a1)+b=((c0+c1+c2+c3)+256*((c1+c2+c3+c4)+256*((c2+c3+c4+c5)+256*(c3+c4+c5+c6))))+4294967296*d:=by omega
 have e3:bu .u64 ((y+a1)+b) 32=d:=Hq (by decide) (by rw[hud]; omega)
 have hw:uw .u64 (((y+a1)+b)+bu .u64 ((y+a1)+b) 32)=((y+a1)+b)+d:=by rw[e3]; exact ef (by omega)
 refine⟨_,_,((c1+c2+c3+c4)+256*((c2+c3+c4+c5)+256*(c3+c4+c5+c6)))+16777216*d+((c5+c6+c7)+256*((c6+c7)+256*c7)),hz,hu,?_,?_⟩
 ·rw[hw]; omega
 ·omega
theorem Kp (n x:Nat) (hx:x<2 ^ 64):OT n x=some ((rk x 64:Nat):Int):=by
 obtain⟨d0,hd0⟩:∃d,d=qD x 64:=⟨_,rfl⟩;have l0:d0.length=64:=by rw[hd0]; exact yV 64 x
 have b0:∀d ∈ d0,d≤1:=by rw[hd0]; exact Bi 64 x
 have v0:val 1 d0=x:=by rw[hd0]; exact xA 64 x hx
 have s0:d0.sum=rk x 64:=by rw[hd0]; exact za 64 x
 have e1:=rz 1 32 d0 (by omega) fun d hd=>by have:=b0 d hd; omega
 have l1:=jJ 32 d0 (by omega)
 have b1:=lz d0 b0;have e2:=rz 2 16 (pairUp d0) (by omega) fun d hd=>by have:=b1 d hd; omega
 have l2:=jJ 16 (pairUp d0) (by omega)
 have b2:=lz _ b1;have e3:=tK 4 5 (by decide) (by decide) 8 (pairUp (pairUp d0)) (by omega) fun d hd=>by have:=b2 d hd; omega
 have l3:=jJ 8 (pairUp (pairUp d0)) (by omega)
 have b3:=lz _ b2;have s3:(pairUp (pairUp (pairUp d0))).sum=rk x 64:=by rw[jr,jr,jr,s0]
 have m1:Gp 1 32=6148914691236517205:=by decide
 have m2:Gp 2 16=3689348814741910323:=by decide
 have m3:Gp 4 8=1085102592571150095:=by decide
 rw[v0,m1] at e1;rw[m2] at e2;rw[m3] at e3;have q1:val 2 (pairUp d0)<2 ^ 64:=by
  have:=Ar (w:=2) (pairUp d0) fun d hd=>by have:=b1 d hd; omega
  rwa[l1] at this
 have q2:val 4 (pairUp (pairUp d0))<2 ^ 64:=by
  have:=Ar (w:=4) (pairUp (pairUp d0)) fun d hd=>by have:=b2 d hd; omega
  rwa[l2] at this
 have hS:∀a b:Nat,a<2 ^ 64→uw .u64 (uw .u64 a &&& uw .u64 b)=a &&& uw .u64 b:=fun a b ha=>by
  rw[ef ha,ef (jK ha)]
 have sh:∀k:Nat,k≤64→∀a:Nat,a<2 ^ 64→bu .u64 a k<2 ^ 64:=fun k hk a ha=>by
  rw[fW hk,Nat.shiftRight_eq_div_pow]; exact Nat.lt_of_le_of_lt (Nat.div_le_self _ _) ha
 have i1:uw .u64 6148914691236517205=6148914691236517205:=by decide
 have i2:uw .u64 3689348814741910323=3689348814741910323:=by decide
 have i3:uw .u64 1085102592571150095=1085102592571150095:=by decide
 have y2:uw .u64 ((uw .u64 (uw .u64 (bu .u64 x 1) &&& uw .u64 6148914691236517205))+(uw .u64 (uw .u64 x &&& uw .u64 6148914691236517205)))=val 2 (pairUp d0):=by
  rw[hS _ _ (sh 1 (by decide) x hx),hS _ _ hx,i1,fW (by decide),e1,ef q1]
 have y4:uw .u64 ((uw .u64 (uw .u64 (bu .u64 (val 2 (pairUp d0)) 2) &&& uw .u64 3689348814741910323))+(uw .u64 (uw .u64 (val 2 (pairUp d0)) &&& uw .u64 3689348814741910323)))=val 4 (pairUp (pairUp d0)):=by
  rw[hS _ _ (sh 2 (by decide) _ q1),hS _ _ q1,i2,fW (by decide),e2,ef q2]
 obtain⟨d3,hd3⟩:∃d,d=pairUp (pairUp (pairUp d0)):=⟨_,rfl⟩;rw[←hd3] at e3 l3 b3 s3;have q3:val 4 (pairUp (pairUp d0))<6*2 ^ 60:=by
  have:=Hb (w:=4) (B:=4) (pairUp (pairUp d0)) b2;rw[l2] at this;omega
 have y6:uw .u64 (uw .u64 (uw .u64 ((bu .u64 (val 4 (pairUp (pairUp d0))) 4)+val 4 (pairUp (pairUp d0)))) &&& uw .u64 1085102592571150095)=val 8 d3:=by
  have hle:bu .u64 (val 4 (pairUp (pairUp d0))) 4+val 4 (pairUp (pairUp d0))<2 ^ 64:=by
   rw[fW (by decide),Nat.shiftRight_eq_div_pow]; omega
  rw[ef hle,hS _ _ hle,i3,fW (by decide),e3]
 unfold OT;rw[y2,ah,y4,ah,y6,ah]
 match d3,l3,b3,s3 with
 | [c0,c1,c2,c3,c4,c5,c6,c7],_,b3,s3 =>
  have hv:val 8 [c0,c1,c2,c3,c4,c5,c6,c7]=c0+256*(c1+256*(c2+256*(c3+256*(c4+256*(c5+256*(c6+256*c7)))))):=by simp[val]
  obtain⟨z,u,K,t1,t2,t3,hK⟩:=CU c0 c1 c2 c3 c4 c5 c6 c7 (b3 c0 (by simp)) (b3 c1 (by simp)) (b3 c2 (by simp)) (b3 c3 (by simp)) (b3 c4 (by simp)) (b3 c5 (by simp)) (b3 c6 (by simp)) (b3 c7 (by simp)) _ hv
  have hs:c0+c1+c2+c3+c4+c5+c6+c7=rk x 64:=by
   rw[←s3]; simp only[List.sum_cons,List.sum_nil]; omega
  rw[t1,t2,ah,t3,hs];have hr:rk x 64≤64:=dO _ _;rw[aR (by omega) (by omega)]
  have hand:FG .i64 ((rk x 64+256*K:Nat):Int) 127=((rk x 64:Nat):Int):=by
   unfold FG;have h1:(BitVec.ofInt IntKind.i64.bits ((rk x 64+256*K:Nat):Int) &&& BitVec.ofInt IntKind.i64.bits 127).toNat=rk x 64:=by
    rw[BitVec.toNat_and,BitVec.toNat_ofInt,BitVec.toNat_ofInt];have a1:(((rk x 64+256*K:Nat):Int)%((2 ^ IntKind.i64.bits:Nat):Int)).toNat=rk x 64+256*K:=by
     show(((rk x 64+256*K:Nat):Int)%(18446744073709551616:Int)).toNat=_
     omega
    have a2:((127:Int)%((2 ^ IntKind.i64.bits:Nat):Int)).toNat=2 ^ 7-1:=by decide
    rw[a1,a2,Nat.and_two_pow_sub_one_eq_mod];omega
   rw[h1,aR (by omega) (by omega)]
  rw[hand,ah]
def rf (p:Int × Int) (l:List (Int × Int)):Int × Int:=(l.getLast?).getD p
theorem xO {N:Int} (e:Int × Int):∀(l:List (Int × Int)) (p:Int × Int),nX N p (l++[e])=(nX N p l && da N (rf p l) e)
 | [],p=>by rw[List.nil_append,iX]; simp[nX,rf]
 | x::l,p=>by
  rw[List.cons_append,iX,iX,xO e l x,Bool.and_assoc]
  congr 2
  unfold rf;cases l with
  | nil=>rfl
  | cons y l =>
   rw[List.getLast?_cons_cons];have:∃z,(y::l).getLast? = some z:=⟨_,List.getLast?_eq_some_getLast (by simp)⟩
   obtain⟨z,hz⟩:=this;rw[hz]; rfl
def mV (N:Int) (l:List (Int × Int)) (a b:Int):Prop:=nX N (-1,-1) l=true∧((rf (-1,-1) l).1<a∨(rf (-1,-1) l).1=a∧(rf (-1,-1) l).2<b)
theorem mV.add {N:Int} {l:List (Int × Int)} {a b:Int} (h:mV N l a b) (ha:0≤a) (hab:a<b) (hb:b<N):mV N (l++[(a,b)]) a (b+1):=by
 refine⟨?_,.inr ?_⟩
 ·rw[xO,h.1,Bool.true_and];simp only[da,Bool.and_eq_true,decide_eq_true_eq];exact⟨⟨ha,hab,hb⟩,h.2⟩
 ·unfold rf;rw[List.getLast?_append];simp only[List.getLast?_singleton,Option.some_or,Option.getD_some];exact⟨trivial,by omega⟩
theorem mV.next {N:Int} {l:List (Int × Int)} {a b:Int} (h:mV N l a b):mV N l a (b+1):=⟨h.1,by rcases h.2 with h|h; exact .inl h; exact .inr (by omega)⟩
theorem mV.row {N:Int} {l:List (Int × Int)} {a b c:Int} (h:mV N l a b):mV N l (a+1) c:=⟨h.1,.inl (by rcases h.2 with h|h<;>omega)⟩
theorem Ip (n0:Nat) (N a w:Int) (x3:Nat) (l1:List (Nat × Nat)) (hN:1≤N∧N≤12) (hw:w≠0) (l:List (Int × Int)) (c b:Int) (M:Nat) (hl:l.length≤M) (hM:M≤1000) (hb:0≤b∧b≤N) (ha:0≤a∧a<b) (hu:mV N l a b) (n:Nat) (hn:12<n) (h3:3<n0) :
  ∃r,bG (EC n0 N a w x3 l1) n (l,c,b)=some r∧r.1.length≤M+12∧mV N r.1 a N:=by
 refine wS (body:=EC n0 N a w x3 l1) (R:=fun r=>r.1.length≤M+12∧mV N r.1 a N) (fun k s=>0≤s.2.2∧s.2.2+k=N∧s.1.length+k≤M+12∧a<s.2.2∧mV N s.1 a s.2.2) (fun k s hI=>?_) (N-b).toNat (l,c,b) n ⟨hb.1,by simp only; omega,by simp only; omega,ha.2,hu⟩ (by omega)
 obtain⟨l,c,b⟩:=s;obtain⟨h4,h5,h6,h2,h1⟩:=hI;simp only at h4 h5 h6 h2 h1;simp only[EC]
 by_cases c0:b<N
 ·rw[bB c0];have e0:∃z,br (decide (b=IntKind.wrap .i64 (a+w))) (some true) (br (decide (b=IntKind.wrap .i64 (a+1))) (gd (decide (w≠0)) (some (!decide (Int.tmod b w=0)))) (some false))=some z :=
   gx (fun _=>gb _) fun _=>gx (fun _=>⟨_,cM hw _⟩) fun _=>gb _
  obtain⟨z,hz⟩:=e0;rw[hz,ah];have e1:∃c' z',br z (ob (ob (br (decide (Int.tmod c 2=1)) (ob (some (bu .u16 x3 (ui .u64 (Int.tmod (IntKind.wrap .i64 (Int.tdiv c 2)) 16)))) fun y2=>some (decide (uw .u16 (uw .u16 y2 &&& uw .u16 1)=1))) (some false)) fun v0=>br v0 (some false) (some z)) fun v1=>some (IntKind.wrap .i64 (c+1),v1)) (some (c,z))=some (c',z'):=by
   cases z with
   | false=>exact⟨c,false,rfl⟩
   | true =>
    rw[bI];have:∃q,(ob (br (decide (Int.tmod c 2=1)) (ob (some (bu .u16 x3 (ui .u64 (Int.tmod (IntKind.wrap .i64 (Int.tdiv c 2)) 16)))) fun y2=>some (decide (uw .u16 (uw .u16 y2 &&& uw .u16 1)=1))) (some false)) fun v0=>br v0 (some false) (some true))=some q:=by
     by_cases h:Int.tmod c 2=1
     ·rw[bB h,ah,ah]; exact gx (fun _=>gb _) fun _=>gb _
     ·rw[bf h,ah]; exact gx (fun _=>gb _) fun _=>gb _
    obtain⟨q,hq⟩:=this;exact⟨_,q,by rw[hq,ah]⟩
  obtain⟨c',z',hz'⟩:=e1;rw[hz',ah];obtain⟨q,hq⟩:=Fm n0 l1 N a b (by omega) z' n0 h3
  simp only[hq,ah];cases q with
  | false =>
   refine .inl ⟨(l,c',b+1),?_,k-1,by omega,by simp only; omega,by simp only; omega,by simp only; omega,by simp only; omega,h1.next⟩
   rw[bK,ah,aR (by omega) (by omega)]
  | true =>
   refine .inl ⟨(l++[(a,b)],c',b+1),?_,k-1,by omega,by simp only; omega,by simp only; omega,by simp; omega,by simp only; omega,h1.add ha.1 h2 c0⟩
   rw[bI,ga (by simp; omega),aD,ah,aR (by omega) (by omega)]
 ·rw[bf c0]; exact .inr ⟨(l,c),rfl,by simp only; omega,(show b=N by omega) ▸ h1⟩
theorem Ic (n0:Nat) (N w:Int) (x3:Nat) (l4:List (Nat × Nat)) (hN:1≤N∧N≤12) (hw:w≠0) (n:Nat) (hn:12<n) (hn0:12<n0) :
  ∃r,bG (Ha n0 N x3 l4) n (w,[],0,0)=some r∧r.length≤200∧nX N (-1,-1) r=true:=by
 refine wS (body:=Ha n0 N x3 l4) (R:=fun r=>r.length≤200∧nX N (-1,-1) r=true) (fun k s=>s.1=w∧0≤s.2.2.2∧s.2.2.2+k=N∧s.2.1.length+12*k≤144∧mV N s.2.1 s.2.2.2 0) (fun k s hI=>?_) N.toNat (w,[],0,0) n ⟨rfl,by simp,by simp only; omega,by simp; omega,⟨rfl,.inl (by show(-1:Int)<0; decide)⟩⟩ (by omega)
 obtain⟨w',l,c,a⟩:=s;obtain⟨rfl,h1,h2,h3,h4⟩:=hI;simp only at h1 h2 h3 h4 hw;simp only[Ha]
 by_cases c1:a<N
 ·rw[bB c1];obtain⟨r,hr,hrl,hru⟩:=Ip n0 N a w' x3 l4 hN hw l c (IntKind.wrap .i64 (a+1)) l.length (Nat.le_refl _) (by omega) (by rw[aR (by omega) (by omega)]; omega) (by rw[aR (by omega) (by omega)]; omega) (by rw[aR (by omega) (by omega)]; exact⟨h4.1,h4.2.imp id fun h=>⟨h.1,by omega⟩⟩) n0 hn0 (by omega)
  obtain⟨l',c'⟩:=r;simp only[hr,ah];exact .inl ⟨(w',l',c',a+1),by rw[aR (by omega) (by omega)],k-1,by omega,rfl,by simp only; omega,by simp only; omega,by simp only at hrl ⊢; omega,hru.row⟩
 ·rw[bf c1]; exact .inr ⟨l,rfl,by omega,h4.1⟩
theorem Np (n x1 x2 x3:Nat) (l4:List (Nat × Nat)) (hn:12<n):∃N es,F7 n x1 x2 x3 l4=some (N,es)∧pN N es=true:=by
 unfold F7;have w1:IntKind.wrap .i64 ((x1%4:Nat):Int)=((x1%4:Nat):Int):=aR (by omega) (by omega)
 have w2:IntKind.wrap .i64 ((x2%3:Nat):Int)=((x2%3:Nat):Int):=aR (by omega) (by omega)
 have w3:IntKind.wrap .i64 (1+((x1%4:Nat):Int))=1+((x1%4:Nat):Int):=aR (by omega) (by omega)
 have w4:IntKind.wrap .i64 (1+((x2%3:Nat):Int))=1+((x2%3:Nat):Int):=aR (by omega) (by omega)
 rw[w1,w2,w3,w4,ah];have hN:∀a b:Nat,a<4→b<3→1≤(1+(a:Int))*(1+(b:Int))∧(1+(a:Int))*(1+(b:Int))≤12:=by
  intro a b ha hb;have h1:a=0∨a=1∨a=2∨a=3:=by omega
  have h2:b=0∨b=1∨b=2:=by omega
  rcases h1 with rfl|rfl|rfl|rfl<;>rcases h2 with rfl|rfl|rfl<;>decide
 have hN':=hN (x1%4) (x2%3) (Nat.mod_lt _ (by omega)) (Nat.mod_lt _ (by omega))
 rw[aR (by omega) (by omega)]
 obtain⟨r,hr,hl,hu⟩:=Ic n ((1+((x1%4:Nat):Int))*(1+((x2%3:Nat):Int))) (1+((x1%4:Nat):Int)) x3 l4 hN' (by omega) n hn hn
 refine⟨_,r,by rw[hr,ah],?_⟩
 simp only[pN,Bool.and_eq_true,decide_eq_true_eq];exact⟨⟨hN'.1,by omega,hl⟩,hu⟩
theorem xU {a b c:Int × Int} (h:lexLt a b) (g:lexLt b c):lexLt a c:=by unfold lexLt at *; omega
theorem Ce {N:Int}:∀{es:List (Int × Int)} {p:Int × Int},nX N p es=true→(p::es).Pairwise lexLt
 | [],p,_=>by simp
 | e::es,p,h=>by
  rw[iX,Bool.and_eq_true] at h;have ih:=Ce h.2;have hpe:lexLt p e:=by
   have:=h.1;simp only[da,Bool.and_eq_true,decide_eq_true_eq] at this;exact this.2
  refine List.pairwise_cons.2 ⟨fun q hq=>?_,ih⟩;rcases List.mem_cons.1 hq with rfl|hq
  ·exact hpe
  ·exact xU hpe ((List.pairwise_cons.1 ih).1 q hq)
theorem HO {N:Int} {es:List (Int × Int)} (h:pN N es=true):es.Pairwise lexLt:=by
 simp only[pN,Bool.and_eq_true] at h;exact(List.pairwise_cons.1 (Ce h.2)).2
theorem CD (S M:Nat):(bW S M).Pairwise (· < ·):=List.Pairwise.filter _ List.pairwise_lt_range
end Go.Proofs.YtookeaakpiefjaaDoor
end

section
namespace Go.Proofs.YtookeaakpiefjaaDoor
open Go Go.Ab Go.Ab.W Go.Ab.T30
def cU (s:Nat) (e:Nat × Nat):Nat:=if s.testBit e.1 || s.testBit e.2 then s ||| 2 ^ e.1 ||| 2 ^ e.2 else s
def lC (T:List (Nat × Nat)) (s:Nat):Nat:=T.foldl cU s
def IN (T:List (Nat × Nat)):Prop:=∀e ∈ T,e.1<64∧e.2<64
theorem qz {s:Nat} {e:Nat × Nat} (hs:s<2 ^ 64) (h1:e.1<64) (h2:e.2<64):cU s e<2 ^ 64:=by
 unfold cU
 split
 ·exact j9 (j9 hs (dB h1)) (dB h2)
 ·exact hs
theorem fx {s i:Nat} {e:Nat × Nat}:(cU s e).testBit i=true↔s.testBit i=true∨((s.testBit e.1=true∨s.testBit e.2=true)∧(i=e.1∨i=e.2)):=by
 unfold cU
 by_cases h:(s.testBit e.1 || s.testBit e.2)=true
 ·rw[if_pos h];simp only[Nat.testBit_or,Bool.or_eq_true,eX,decide_eq_true_eq];rw[Bool.or_eq_true] at h;constructor
  ·rintro((h1|h1) | h1)
   ·exact .inl h1
   ·exact .inr ⟨h,.inl h1⟩
   ·exact .inr ⟨h,.inr h1⟩
  ·rintro(h1|⟨_,h1|h1⟩)
   ·exact .inl (.inl h1)
   ·exact .inl (.inr h1)
   ·exact .inr h1
 ·rw[if_neg h];rw[Bool.or_eq_true] at h;exact⟨.inl,fun h1=>h1.elim id fun h1=>absurd h1.1 h⟩
theorem lA {s i:Nat} {e:Nat × Nat} (h:s.testBit i=true):(cU s e).testBit i=true:=fx.2 (.inl h)
theorem jI:∀{T:List (Nat × Nat)} {s i:Nat},s.testBit i=true→(lC T s).testBit i=true
 | [],_,_,h=>h
 | e::T,s,i,h=>jI (T:=T) (lA (e:=e) h)
theorem oU:∀{T:List (Nat × Nat)} {s:Nat},IN T→s<2 ^ 64→lC T s<2 ^ 64
 | [],_,_,h=>h
 | e::T,s,ht,h=>oU (T:=T) (fun e he=>ht e (by simp[he])) (qz h (ht e (by simp)).1 (ht e (by simp)).2)
theorem Bh {T:List (Nat × Nat)} {x:Nat}:∀{T':List (Nat × Nat)} {s:Nat},(∀e ∈ T',e ∈ T)→(∀i,s.testBit i=true→Cn T x i)→∀i,(lC T' s).testBit i=true→Cn T x i
 | [],_,_,h=>h
 | e::T',s,ht,h=>Bh (T':=T') (fun e he=>ht e (by simp[he])) fun i hi=>by
  obtain⟨a,b⟩:=e;have hab:Nb T a b:=.inl (ht (a,b) (by simp))
  rcases fx.1 hi with h1|⟨h1,h2⟩
  ·exact h i h1
  ·rcases h1 with h1|h1<;>rcases h2 with rfl|rfl
   ·exact h _ h1
   ·exact .step (h _ h1) hab
   ·exact .step (h _ h1) hab.symm
   ·exact h _ h1
theorem sub_eq {a b:Nat} (h1:∀i,a.testBit i=true→b.testBit i=true) (h2:∀i,b.testBit i=true→a.testBit i=true):a=b:=gO fun i=>⟨h1 i,h2 i⟩
theorem uK:∀{T:List (Nat × Nat)} {s:Nat},lC T s=s→∀e ∈ T,(s.testBit e.1=true↔s.testBit e.2=true)
 | [],_,_,e,he=>by cases he
 | e::T,s,h,e',he=>by
  have h1:cU s e=s:=sub_eq (fun i hi=>by
   have:(lC T (cU s e)).testBit i=true:=jI hi;rw[show lC T (cU s e)=lC (e::T) s from rfl,h] at this; exact this) fun i hi=>lA hi
  rcases List.mem_cons.1 he with rfl|he
  ·constructor
   ·intro h2; rw[←h1]; exact fx.2 (.inr ⟨.inl h2,.inr rfl⟩)
   ·intro h2; rw[←h1]; exact fx.2 (.inr ⟨.inr h2,.inl rfl⟩)
  ·have h2:lC T s=s:=by
    have:lC (e::T) s=lC T (cU s e):=rfl;rw[this,h1] at h; exact h
   exact uK h2 e' he
theorem FC:∀{T:List (Nat × Nat)} {s:Nat},(∀e ∈ T,(s.testBit e.1=true↔s.testBit e.2=true))→lC T s=s
 | [],_,_=>rfl
 | e::T,s,h=>by
  have h1:cU s e=s:=sub_eq (fun i hi=>by
   have he:=h e (by simp)
   rcases fx.1 hi with h1|⟨h1,rfl|rfl⟩
   ·exact h1
   ·exact h1.elim id he.2
   ·exact h1.elim he.1 id) fun i hi=>lA hi
  show lC T (cU s e)=s
  rw[h1];exact FC fun e he=>h e (by simp[he])
def HY (T:List (Nat × Nat)) (x w:Nat):Prop:=w<2 ^ 64∧∀j,w.testBit j=true↔Cn T x j
theorem HY.uniq {T:List (Nat × Nat)} {x w w':Nat} (h:HY T x w) (h':HY T x w'):w=w':=gO fun i=>(h.2 i).trans (h'.2 i).symm
theorem Fo {T:List (Nat × Nat)} {x w:Nat} (hw:w<2 ^ 64) (hx:w.testBit x=true) (hc:∀i,w.testBit i=true→Cn T x i) (hf:lC T w=w):HY T x w:=by
 refine⟨hw,fun j=>⟨hc j,fun h=>?_⟩⟩;refine h.closed (Q:=fun j=>w.testBit j=true) hx fun a b ha hn=>?_;rcases hn with hn|hn
 ·exact(uK hf _ hn).1 ha
 ·exact(uK hf _ hn).2 ha
theorem yj {p q:Nat→Bool}:∀{l:List Nat},(∀x,p x=true→q x=true)→(∃x ∈ l,q x=true∧p x=false)→(l.filter p).length<(l.filter q).length:=by
 intro l
 induction l with
 | nil=>intro _ h; obtain⟨x,h,_⟩:=h; cases h
 | cons a l ih =>
  intro h1 h2;have hle:∀l:List Nat,(l.filter p).length≤(l.filter q).length:=fun l=>by
   induction l with
   | nil=>exact Nat.le_refl _
   | cons b l ih =>
    by_cases hb:p b=true
    ·rw[List.filter_cons_of_pos hb,List.filter_cons_of_pos (h1 b hb)]; simp only[List.length_cons]; omega
    ·rw[List.filter_cons_of_neg hb]
     by_cases hq:q b=true
     ·rw[List.filter_cons_of_pos hq]; simp only[List.length_cons]; omega
     ·rw[List.filter_cons_of_neg hq]; exact ih
  obtain⟨x,hx,h3,h4⟩:=h2
  by_cases ha:p a=true
  ·rw[List.filter_cons_of_pos ha,List.filter_cons_of_pos (h1 a ha)];have hx':x ∈ l:=by
    rcases List.mem_cons.1 hx with rfl|hx
    ·rw[ha] at h4; cases h4
    ·exact hx
   have:=ih h1 ⟨x,hx',h3,h4⟩;simp only[List.length_cons]; omega
  ·rw[List.filter_cons_of_neg ha]
   by_cases hq:q a=true
   ·rw[List.filter_cons_of_pos hq];have:=hle l;simp only[List.length_cons]; omega
   ·rw[List.filter_cons_of_neg hq];have hx':x ∈ l:=by
     rcases List.mem_cons.1 hx with rfl|hx
     ·exact absurd h3 hq
     ·exact hx
    exact ih h1 ⟨x,hx',h3,h4⟩
theorem BH {a b:Nat} (hb:b<2 ^ 64) (h:∀i,a.testBit i=true→b.testBit i=true) (hne:b≠a):rk a 64<rk b 64:=by
 refine yj (p:=fun i=>a.testBit i) (q:=fun i=>b.testBit i) h ?_;refine Classical.byContradiction fun hno=>hne (sub_eq (fun i hi=>?_) h);refine Classical.byContradiction fun hn=>hno ⟨i,List.mem_range.2 (gV hb hi),hi,by simpa using hn⟩
theorem zY {a x:Nat} (h:a.testBit x=true) (hx:x<64):1≤rk a 64:=List.length_pos_of_mem (bT.2 ⟨hx,h⟩)
def Nh (T:List (Nat × Nat)):Nat→Nat→Nat
 | 0,s=>s
 | k+1,s=>Nh T k (lC T s)
theorem B8 {T:List (Nat × Nat)} {x:Nat} (hT:IN T) (hx:x<64):∀(k s:Nat),s<2 ^ 64→s.testBit x=true→(∀i,s.testBit i=true→Cn T x i)→(lC T s=s∨65≤k+rk s 64)→HY T x (Nh T k s)
 | 0,s,hs,hb,hc,hk=>by
  rcases hk with hk|hk
  ·exact Fo hs hb hc hk
  ·have:rk s 64≤64:=dO _ _;omega
 | k+1,s,hs,hb,hc,hk=>by
  refine B8 hT hx k (lC T s) (oU hT hs) (jI hb) (Bh (fun e h=>h) hc) ?_
  by_cases h:lC T s=s
  ·exact .inl (by rw[h,h])
  ·rcases hk with hk|hk
   ·exact absurd hk h
   ·have:=BH (oU hT hs) (fun i=>jI (T:=T)) h;exact .inr (by omega)
theorem qu {T:List (Nat × Nat)} {x:Nat} (hT:IN T) (hx:x<64):HY T x (Nh T 64 (2 ^ x)):=by
 have hb:(2 ^ x).testBit x=true:=by rw[eX]; simp
 refine B8 hT hx 64 (2 ^ x) (dB hx) hb (fun i hi=>?_) (.inr ?_)
 ·rw[eX,decide_eq_true_eq] at hi; rw[hi]; exact .refl
 ·have:=zY hb hx; omega
def eg (es:List (Int × Int)) (k:Int):Nat × Nat:=match es[k.toNat]? with
 | some e=>(e.1.toNat,e.2.toNat)
 | none=>(0,0)
def Vl (es:List (Int × Int)) (k:Int):Prop:=0≤k∧k<(es.length:Int)
theorem eY {N:Nat} {es:List (Int × Int)} {k:Int} (h:Okay N es) (hk:Vl es k):∃a b:Nat,es[k.toNat]? = some ((a:Int),(b:Int))∧eg es k=(a,b)∧a<b∧b<64∧b<N∧bE k es.length=true:=by
 obtain⟨i,rfl⟩:=Int.eq_ofNat_of_zero_le hk.1;have hi:i<es.length:=by have:=hk.2; omega
 obtain⟨a,b,e,h1,h2⟩:=h.mem _ (List.getElem_mem hi);have h3:es[((i:Nat):Int).toNat]? = some ((a:Int),(b:Int)):=by rw[Int.toNat_natCast,List.getElem?_eq_getElem hi,e]
 have:=h.le;exact⟨a,b,h3,by unfold eg; rw[h3]; simp,h1,by omega,h2,aw hi⟩
theorem ji {N:Nat} {es:List (Int × Int)} (h:Okay N es) {l:List Int} (hl:∀k ∈ l,Vl es k):IN (l.map (eg es)):=fun e he=>by
 obtain⟨k,hk,rfl⟩:=List.mem_map.1 he;obtain⟨a,b,_,h2,h3,h4,_⟩:=eY h (hl k hk);rw[h2]; exact⟨Nat.lt_trans h3 h4,h4⟩
theorem tH (T:List (Nat × Nat)):∀(l:List Nat) (s:Nat),l.foldl (fun s _=>lC T s) s=Nh T l.length s
 | [],_=>rfl
 | _::l,s=>tH T l (lC T s)
theorem DZ {N:Nat} {es:List (Int × Int)} (h:Okay N es) {l:List Int} (hl:∀k ∈ l,Vl es k) (n0 n s:Nat) (hs:s<2 ^ 64) (hb:l.length<4611686018427387904) (hn:l.length<n):bG (tR n0 l es) n (s,0)=some (lC (l.map (eg es)) s):=by
 have:=nS (body:=tR n0 l es) l (fun(s:Nat) (v:Int)=>(s,v)) (fun s k=>cU s (eg es k)) id (fun _ s=>s<2 ^ 64) (fun s i k hk hI=>?_) (fun s _=>?_) (n:=n) (s:=s) hs hn
 ·rw[this.1]; unfold lC; rw[List.foldl_map]; rfl
 ·have hlt:=(List.getElem?_eq_some_iff.1 hk).1;obtain⟨a,b,h1,h2,h3,h4,_,h5⟩:=eY h (hl k (List.mem_of_getElem? hk));have hk':l[((i:Nat):Int).toNat]? = some k:=by rw[Int.toNat_natCast]; exact hk
  refine⟨?_,by rw[h2]; exact qz hI (by simp only; omega) (by simp only; omega)⟩
  unfold tR;simp only[decide_eq_true (show((i:Nat):Int)<(l.length:Int) by omega),bI,aw hlt,aD,hk',ah,h5,h1,kR n0 s a hI (by omega),kR n0 s b hI h4,uP n0 a (by omega),uP n0 b h4,aH (show i<4611686018427387904 by omega),h2]
  unfold cU;cases ha:s.testBit a<;>cases hbb:s.testBit b<;>simp only[bI,bK,ah,Bool.or_true,Bool.or_false,Bool.true_or,if_true,Bool.false_eq_true,if_false]<;>first
   | rfl
   | (rw[fH hI (dB (show a<64 by omega)),fH (j9 hI (dB (show a<64 by omega))) (dB h4)])
 ·unfold tR;simp[br]
theorem LS {N:Nat} {es:List (Int × Int)} (h:Okay N es) {l:List Int} (hl:∀k ∈ l,Vl es k) (n i:Nat) (x:Int) (hi:i<64) (hb:l.length<4611686018427387904) (hn:l.length<n) (hn2:64<n):M0 n x es l (i:Int)=some (Nh (l.map (eg es)) 64 (2 ^ i)):=by
 have:=Js (body:=wY n l es) 64 (fun(s:Nat) (v:Int)=>(s,v)) (fun s _=>lC (l.map (eg es)) s) id (fun _ s=>s<2 ^ 64) (fun s i hi hI=>?_) (fun s _=>?_) (n:=n) (s:=2 ^ i) (dB hi) hn2
 ·unfold M0;rw[uP n i hi,ah,this.1,tH,List.length_range]; rfl
 ·refine⟨?_,oU (ji h hl) hI⟩;unfold wY;simp only[decide_eq_true (show((i:Nat):Int)<64 by omega),bI,DZ h hl n n s hI hb hn,ah,aH (show i<4611686018427387904 by omega)]
 ·unfold wY;simp[br]
theorem Iu {N:Nat} {es:List (Int × Int)} (h:Okay N es) {l:List Int} (hl:∀k ∈ l,Vl es k) (n i:Nat) (x:Int) (hi:i<64) (hb:l.length<4611686018427387904) (hn:l.length<n) (hn2:64<n):∃w,M0 n x es l (i:Int)=some w∧HY (l.map (eg es)) i w:=⟨_,LS h hl n i x hi hb hn hn2,qu (ji h hl) hi⟩
def wo (l:List Int) (x:Int):List Int:=l.filter (fun k=>!decide (k=x))
theorem zS {l:List Int} {x:Int}:(wo l x).length=l.length↔x ∉ l:=by
 unfold wo;rw[List.length_filter_eq_length_iff];constructor
 ·intro h hx;have:=h x hx;simp at this
 ·intro h k hk;simp only[Bool.not_eq_true',decide_eq_false_iff_not];exact fun e=>h (e ▸ hk)
theorem dt {l:List Int} {x k:Int} (h:k ∈ wo l x):k ∈ l∧k≠x:=by
 unfold wo at h;rw[List.mem_filter] at h
 simpa using h
theorem rv {l:List Int} {x k:Int} (h:k ∈ l) (hne:k≠x):k ∈ wo l x:=by
 unfold wo;rw[List.mem_filter]
 simpa using ⟨h,hne⟩
theorem JM {l:List Int} {x:Int}:(wo l x).length≤l.length:=List.length_filter_le _ _
theorem MV (n0:Nat) (l:List Int) (x:Int) (hb:l.length<4611686018427387904):∀k i n,i+k=l.length→k<n→∃r,bG (rJ n0 l x) n ((i:Nat):Int)=some r∧((∃v,r = .inl v∧0≤v∧x ∈ l.drop i)∨(r = .inr ()∧x ∉ l.drop i)):=by
 intro k
 induction k with
 | zero =>
  intro i n hi hk;obtain⟨n,rfl⟩:∃n',n=n'+1:=⟨n-1,by omega⟩
  exact⟨_,aM (by unfold rJ; rw[bf (by omega)]),.inr ⟨rfl,by rw[List.drop_of_length_le (by omega)]; simp⟩⟩
 | succ k ih =>
  intro i n hi hk;obtain⟨n,rfl⟩:∃n',n=n'+1:=⟨n-1,by omega⟩
  have a1:i<l.length:=by omega
  have e1:l[((i:Nat):Int).toNat]? = some l[i]:=by simp[a1]
  rw[List.drop_eq_getElem_cons a1]
  by_cases h:x=l[i]
  ·exact⟨_,aM (r:=.inl ((i:Nat):Int)) (by unfold rJ; simp only[decide_eq_true (show((i:Nat):Int)<(l.length:Int) by omega),bI,aw a1,aD,e1,ah,decide_eq_true h]),.inl ⟨_,rfl,Int.natCast_nonneg _,by rw[←h]; simp⟩⟩
  ·rw[aU (s':=((i+1:Nat):Int)) (by unfold rJ; simp only[decide_eq_true (show((i:Nat):Int)<(l.length:Int) by omega),bI,aw a1,aD,e1,ah,decide_eq_false h,bK,aH (show i<4611686018427387904 by omega)])]
   obtain⟨r,h1,h2⟩:=ih (i+1) n (by omega) (by omega)
   refine⟨r,h1,?_⟩;rcases h2 with⟨v,h2,h3,h4⟩|⟨h2,h3⟩
   ·exact .inl ⟨v,h2,h3,List.mem_cons_of_mem _ h4⟩
   ·exact .inr ⟨h2,fun hm=>by rcases List.mem_cons.1 hm with hm|hm; exact h hm; exact h3 hm⟩
theorem KR (n:Nat) (l:List Int) (x:Int) (hb:l.length<4611686018427387904) (hn:l.length<n):Oe n l x=some (decide (x ∈ l)):=by
 obtain⟨r,h1,h2⟩:=MV n l x hb l.length 0 n (by omega) hn
 rw[List.drop_zero] at h2;unfold Oe Pm;rw[show bG (rJ n l x) n 0=some r from h1]
 rcases h2 with⟨v,rfl,h3,h4⟩|⟨rfl,h3⟩
 ·simp only[ah,decide_eq_true h3,decide_eq_true h4]
 ·simp only[ah,decide_eq_false h3]; rfl
theorem MX (n0 x:Nat) (hx:x<2 ^ 64) (h0:0<x):∀k i n,i+k=tz x→k<n→bG (s9 n0 x) n ((i:Nat):Int)=some ((tz x:Nat):Int):=by
 have ht:=ft h0 hx;have h64:tz x<64:=gV hx ht.1;intro k
 induction k with
 | zero =>
  intro i n hi hk;obtain⟨n,rfl⟩:∃n',n=n'+1:=⟨n-1,by omega⟩
  have:i=tz x:=by omega
  subst this;exact aM (by unfold s9; rw[kR n0 x _ hx h64,ah,ht.1]; rfl)
 | succ k ih =>
  intro i n hi hk;obtain⟨n,rfl⟩:∃n',n=n'+1:=⟨n-1,by omega⟩
  rw[aU (s':=((i+1:Nat):Int)) (by unfold s9; rw[kR n0 x _ hx (by omega),ah,ht.2 i (by omega),aH (by omega)]; rfl)]
  exact ih (i+1) n (by omega) (by omega)
theorem KW (n x:Nat) (hx:x<2 ^ 64) (h0:0<x) (hn:64<n):N7 n x=some ((tz x:Nat):Int):=by
 have h64:tz x<64:=gV hx (ft h0 hx).1;unfold N7;rw[show bG (s9 n x) n 0=_ from MX n x hx h0 (tz x) 0 n (by omega) (by omega),ah]
def pg (but:Int) (es:List (Int × Int)) (s:Nat × Bool) (k:Int):Nat × Bool:=if k=but then s else(cU s.1 (eg es k),s.2 || !decide (cU s.1 (eg es k)=s.1))
theorem vT {a b i:Nat}:(2 ^ a ||| 2 ^ b).testBit i=true↔i=a∨i=b:=by
 simp only[Nat.testBit_or,Bool.or_eq_true,eX,decide_eq_true_eq]
theorem EO {s a b:Nat}:(¬s &&& (2 ^ a ||| 2 ^ b)=0∧¬s &&& (2 ^ a ||| 2 ^ b)=2 ^ a ||| 2 ^ b)↔cU s (a,b)≠s:=by
 have h0:s &&& (2 ^ a ||| 2 ^ b)=0↔s.testBit a=false∧s.testBit b=false:=by
  rw[k9];constructor
  ·intro h;have h1:=h a; have h2:=h b;simp only[Nat.testBit_and,Nat.testBit_or,eX,decide_true,Bool.true_or,Bool.or_true,Bool.and_true] at h1 h2;exact⟨h1,h2⟩
  ·rintro⟨h1,h2⟩ i;rw[Nat.testBit_and,Bool.and_eq_false_iff]
   by_cases hi:(2 ^ a ||| 2 ^ b).testBit i=true
   ·rcases vT.1 hi with rfl|rfl
    ·exact .inl h1
    ·exact .inl h2
   ·exact .inr (by simpa using hi)
 have h1:s &&& (2 ^ a ||| 2 ^ b)=2 ^ a ||| 2 ^ b↔s.testBit a=true∧s.testBit b=true:=by
  constructor
  ·intro h;have key:∀i,(i=a∨i=b)→s.testBit i=true:=fun i hi=>by
    have:(s &&& (2 ^ a ||| 2 ^ b)).testBit i=true:=by rw[h]; exact vT.2 hi
    rw[Nat.testBit_and,Bool.and_eq_true] at this;exact this.1
   exact⟨key a (.inl rfl),key b (.inr rfl)⟩
  ·rintro⟨h1,h2⟩;refine gO fun i=>?_;rw[Nat.testBit_and,Bool.and_eq_true,vT];constructor
   ·exact fun h=>h.2
   ·rintro(rfl|rfl)
    ·exact⟨h1,.inl rfl⟩
    ·exact⟨h2,.inr rfl⟩
 rw[h0,h1];have h2:cU s (a,b)=s↔(s.testBit a=true↔s.testBit b=true):=by
  constructor
  ·intro h;constructor
   ·intro h3; rw[←h]; exact fx.2 (.inr ⟨.inl h3,.inr rfl⟩)
   ·intro h3; rw[←h]; exact fx.2 (.inr ⟨.inr h3,.inl rfl⟩)
  ·intro h;exact FC (T:=[(a,b)]) fun e he=>by rw[List.mem_singleton.1 he]; exact h
 rw[ne_eq,h2];cases s.testBit a<;>cases s.testBit b<;>simp
theorem lZ (but:Int) (es:List (Int × Int)):∀(l:List Int) (s:Nat) (m:Bool),l.foldl (pg but es) (s,m)=(lC ((wo l but).map (eg es)) s,m || !decide (lC ((wo l but).map (eg es)) s=s))
 | [],s,m=>by simp[lC,wo]
 | k::l,s,m=>by
  rw[List.foldl_cons]
  by_cases h:k=but
  ·have:wo (k::l) but=wo l but:=by unfold wo; rw[List.filter_cons_of_neg (by simp[h])]
   rw[this,show pg but es (s,m) k=(s,m) by unfold pg; rw[if_pos h],lZ but es l]
  ·have:wo (k::l) but=k::wo l but:=by unfold wo; rw[List.filter_cons_of_pos (by simp[h])]
   rw[this,show pg but es (s,m) k=(cU s (eg es k),m || !decide (cU s (eg es k)=s)) by unfold pg; rw[if_neg h],lZ but es l]
   have e1:lC ((k::wo l but).map (eg es)) s=lC ((wo l but).map (eg es)) (cU s (eg es k)):=rfl;rw[e1];generalize hT:(wo l but).map (eg es)=T
   congr 1
   rw[Bool.or_assoc]
   congr 1
   by_cases h1:cU s (eg es k)=s
   ·rw[h1]; simp
   ·have:¬lC T (cU s (eg es k))=s:=fun h2=>h1 (sub_eq (fun i hi=>by rw[←h2]; exact jI hi) fun i hi=>lA hi)
    simp[h1,this]
theorem D2 {N:Nat} {es:List (Int × Int)} (h:Okay N es) {l:List Int} (hl:∀k ∈ l,Vl es k) (but:Int) (n0 n s:Nat) (m:Bool) (hs:s<2 ^ 64) (hb:l.length<4611686018427387904) (hn:l.length<n):bG (tl n0 l es but) n (s,m,0)=some (lC ((wo l but).map (eg es)) s,m || !decide (lC ((wo l but).map (eg es)) s=s)):=by
 have:=nS (body:=tl n0 l es but) l (fun(s:Nat × Bool) (v:Int)=>(s.1,s.2,v)) (pg but es) id (fun _ s=>s.1<2 ^ 64) (fun s i k hk hI=>?_) (fun s _=>?_) (n:=n) (s:=(s,m)) hs hn
 ·rw[this.1,lZ]; rfl
 ·obtain⟨s,m⟩:=s;have hlt:=(List.getElem?_eq_some_iff.1 hk).1;obtain⟨a,b,h1,h2,h3,h4,_,h5⟩:=eY h (hl k (List.mem_of_getElem? hk));have hk':l[((i:Nat):Int).toNat]? = some k:=by rw[Int.toNat_natCast]; exact hk
  have hI:s<2 ^ 64:=hI;have ha:a<64:=by omega
  have hor:2 ^ a ||| 2 ^ b<2 ^ 64:=j9 (dB ha) (dB h4);refine⟨?_,by unfold pg; split; exact hI; rw[h2]; exact qz hI (by simp only; omega) (by simp only; omega)⟩
  unfold tl pg;simp only[decide_eq_true (show((i:Nat):Int)<(l.length:Int) by omega),bI,aw hlt,aD,hk',hk,ah,h5,h1,aH (show i<4611686018427387904 by omega),h2,decide_eq_true (Int.natCast_nonneg a),decide_eq_true (Int.natCast_nonneg b),Int.toNat_natCast,gK ha,gK h4,fH (dB ha) (dB h4),gN hI hor]
  by_cases hbut:k=but
  ·simp only[decide_eq_true hbut,Bool.not_true,bK,ah,if_pos hbut]
  ·simp only[decide_eq_false hbut,Bool.not_false,bI,if_neg hbut];have hg:=@EO s a b
   by_cases h0:s &&& (2 ^ a ||| 2 ^ b)=0
   ·have hst:cU s (a,b)=s:=Classical.byContradiction fun hne=>(hg.2 hne).1 h0;simp only[decide_eq_true h0,Bool.not_true,bK,ah,hst,decide_true,Bool.or_false]
   ·simp only[decide_eq_false h0,Bool.not_false,bI,ah]
    by_cases h6:s &&& (2 ^ a ||| 2 ^ b)=2 ^ a ||| 2 ^ b
    ·have hst:cU s (a,b)=s:=Classical.byContradiction fun hne=>(hg.2 hne).2 h6;simp only[decide_eq_true h6,Bool.not_true,bK,ah,hst,decide_true,Bool.or_false]
    ·have hst:cU s (a,b)≠s:=hg.1 ⟨h0,h6⟩;simp only[decide_eq_false h6,Bool.not_false,bI,ah,decide_eq_false hst,Bool.or_true,fH hI hor];have:cU s (a,b)=s ||| (2 ^ a ||| 2 ^ b):=by
      unfold cU;have hc:(s.testBit a || s.testBit b)=true:=by
       refine Classical.byContradiction fun hc=>hst ?_;unfold cU;rw[if_neg hc]
      rw[if_pos hc,Nat.or_assoc]
     rw[this]
 ·unfold tl;simp[br]
theorem Hy {N:Nat} {es:List (Int × Int)} (h:Okay N es) {l:List Int} (hl:∀k ∈ l,Vl es k) (but:Int) (n0 x:Nat) (hb:l.length<4611686018427387904) (hn0:l.length<n0) (hx:x<64) :
  ∀(j s n:Nat),s<2 ^ 64→s.testBit x=true→(∀i,s.testBit i=true→Cn ((wo l but).map (eg es)) x i)→65≤j+rk s 64→j+1<n→∃w,bG (xd n0 l es but) n (s,true)=some w∧HY ((wo l but).map (eg es)) x w:=by
 have hT:=ji h (l:=wo l but) fun k hk=>hl k (dt hk).1;intro j
 induction j with
 | zero =>
  intro s n hs hsx hc hj;have:rk s 64≤64:=dO _ _;omega
 | succ j ih =>
  intro s n hs hsx hc hj hn;obtain⟨n,rfl⟩:∃n',n=n'+1:=⟨n-1,by omega⟩
  have h1:=D2 h hl but n0 n0 s false hs hb hn0;rw[aU (s':=(lC ((wo l but).map (eg es)) s,false || !decide (lC ((wo l but).map (eg es)) s=s))) (by unfold xd; simp only[bI,h1,ah])]
  by_cases h2:lC ((wo l but).map (eg es)) s=s
  ·obtain⟨n,rfl⟩:∃n',n=n'+1:=⟨n-1,by omega⟩
   rw[h2,decide_eq_true rfl];exact⟨s,aM (by unfold xd; rfl),Fo hs hsx hc h2⟩
  ·rw[decide_eq_false h2];have:=BH (oU hT hs) (fun i=>jI (T:=(wo l but).map (eg es))) h2;exact ih _ n (oU hT hs) (jI hsx) (Bh (fun e he=>he) hc) (by omega) (by omega)
theorem JE {N:Nat} {es:List (Int × Int)} (h:Okay N es) {l:List Int} (hl:∀k ∈ l,Vl es k) (but x1:Int) (n x:Nat) (hb:l.length<4611686018427387904) (hn:l.length<n) (hn2:70<n) (hx:x<64):∃w,JR n x1 es l but (x:Int)=some w∧HY ((wo l but).map (eg es)) x w:=by
 have hbx:(2 ^ x).testBit x=true:=by rw[eX]; simp
 obtain⟨w,h1,h2⟩:=Hy h hl but n x hb hn hx 64 (2 ^ x) n (dB hx) hbx (fun i hi=>by rw[eX,decide_eq_true_eq] at hi; rw[hi]; exact .refl) (by have:=zY hbx hx; omega) (by omega)
 refine⟨w,?_,h2⟩;unfold JR;rw[decide_eq_true (Int.natCast_nonneg x),aD,Int.toNat_natCast,gK hx,h1,ah]
def gw (es:List (Int × Int)):List Int→Nat→(Nat→Nat)→List (List Int)
 | _,0,_=>[[]]
 | [],_+1,_=>[]
 | k::L,d+1,r=>(if r (eg es k).1=r (eg es k).2 then[] else(gw es L d (bP r (eg es k))).map (k::·))++gw es L (d+1) r
def Hi (p q y:Nat):Nat:=if y=p then q else y
theorem uU {p q y z:Nat} (h:p≠q):Hi p q y=Hi p q z↔y=z∨((y=p∨y=q)∧(z=p∨z=q)):=by
 unfold Hi
 split<;>split<;>omega
theorem qX (r:Nat→Nat) (e:Nat × Nat) (v:Nat):bP r e v=Hi (max (r e.1) (r e.2)) (min (r e.1) (r e.2)) (r v):=rfl
theorem oX {r:Nat→Nat} {e:Nat × Nat} (h:r e.1≠r e.2) (v w:Nat):bP r e v=bP r e w↔r v=r w∨((r v=r e.1∨r v=r e.2)∧(r w=r e.1∨r w=r e.2)):=by
 rw[qX,qX,uU (by omega)]
 omega
theorem pV (ρ:Nat→Nat) (u v i:Nat):mg ρ u v i=Hi u v (ρ i):=rfl
theorem GL {ρ:Nat→Nat} {s a b:Nat} (h:ρ a≠ρ b) (i j:Nat):(if ρ a=s then mg ρ (ρ b) (ρ a) else mg ρ (ρ a) (ρ b)) i=(if ρ a=s then mg ρ (ρ b) (ρ a) else mg ρ (ρ a) (ρ b)) j↔ρ i=ρ j∨((ρ i=ρ a∨ρ i=ρ b)∧(ρ j=ρ a∨ρ j=ρ b)):=by
 by_cases hs:ρ a=s
 ·simp only[if_pos hs];rw[pV,pV,uU (fun e=>h e.symm)];omega
 ·simp only[if_neg hs];rw[pV,pV,uU h]
def dg (s:Nat) (ρ:Nat→Nat):Nat:=((List.range s).filter fun i=>ρ i == i).length
theorem JF {s:Nat} {ρ:Nat→Nat} (h:Rho s ρ) {a b:Nat} (ha:a≤s) (hb:b≤s) (hab:ρ a≠ρ b):dg s ρ=dg s (if ρ a=s then mg ρ (ρ b) (ρ a) else mg ρ (ρ a) (ρ b))+1:=by
 have key:∀u v,ρ u=u→ρ v=v→u≠v→u<s→dg s ρ=dg s (mg ρ u v)+1:=fun u v hu hv huv hus=>by
  refine kv List.nodup_range (List.mem_range.2 hus) (by simpa using hu) fun i=>?_
  simp only[beq_iff_eq];unfold mg;constructor
  ·intro h1
   by_cases hi:ρ i=u
   ·rw[if_pos hi] at h1;rw[←h1,hv] at hi;exact absurd hi.symm huv
   ·rw[if_neg hi] at h1;exact⟨h1,fun e=>hi (by rw[h1,e])⟩
  ·rintro⟨h1,h2⟩;rw[if_neg (fun e=>h2 (by rw[←h1,e])),h1]
 by_cases hs:ρ a=s
 ·rw[if_pos hs];have h1:=h.le b hb;exact key _ _ (h.idem b) (h.idem a) (fun e=>hab e.symm) (by omega)
 ·rw[if_neg hs];have h1:=h.le a ha;exact key _ _ (h.idem a) (h.idem b) hab (by omega)
theorem qd {s:Nat} {ρ:Nat→Nat}:dg s ρ=0↔(List.range s).all (fun i=>ρ i != i)=true:=by
 unfold dg;rw[List.length_eq_zero_iff,List.filter_eq_nil_iff,List.all_eq_true];simp
theorem nP {s:Nat} {ρ:Nat→Nat} (h:Rho s ρ) (h0:dg s ρ=0) {i:Nat} (hi:i≤s):ρ i=s:=by
 have h1:=List.all_eq_true.1 (qd.1 h0);have h2:=h.le i hi
 by_cases h3:ρ i<s
 ·have h4:=h1 (ρ i) (List.mem_range.2 h3);rw[h.idem] at h4;simp at h4
 ·omega
theorem yX {s:Nat} {ρ:Nat→Nat} (h:Rho s ρ) (h0:dg s ρ=0):∀E:List (Nat × Nat),(∀e ∈ E,e.1≤s∧e.2≤s)→p9 s ρ E=1
 | [],_=>by simp only[p9]; rw[if_pos (qd.1 h0)]
 | (a,b)::E,hE=>by
  have ha:a≤s:=(hE (a,b) List.mem_cons_self).1;have hb:b≤s:=(hE (a,b) List.mem_cons_self).2;simp only[p9];rw[if_pos (by rw[nP h h0 ha,nP h h0 hb]),yX h h0 E fun e he=>hE e (List.mem_cons_of_mem _ he)]
theorem AG {es:List (Int × Int)} {V:Nat→Prop} {s:Nat} {ψ:Nat→Nat} (hψ:∀v,V v→ψ v≤s) :
  ∀(L:List Int) (r ρ:Nat→Nat),Rho s ρ→(∀v w,V v→V w→(r v=r w↔ρ (ψ v)=ρ (ψ w)))→(∀k ∈ L,V (eg es k).1∧V (eg es k).2) →
   (gw es L (dg s ρ) r).length=p9 s ρ (jF ψ (L.map (eg es)))
 | [],r,ρ,h,hr,_=>by
  simp only[List.map_nil,jF,p9]
  by_cases h0:dg s ρ=0
  ·rw[if_pos (qd.1 h0),h0]; rfl
  ·rw[if_neg (fun e=>h0 (qd.2 e))];obtain⟨d,hd⟩:∃d,dg s ρ=d+1:=⟨dg s ρ-1,by omega⟩
   rw[hd]; rfl
 | k::L,r,ρ,h,hr,hL=>by
  obtain⟨va,vb⟩:=hL k List.mem_cons_self;have hL':=fun k' hk'=>hL k' (List.mem_cons_of_mem _ hk');have ha:=hψ _ va;have hb:=hψ _ vb
  by_cases h0:dg s ρ=0
  ·rw[yX h h0 _ (fun e he=>by
    obtain⟨e',h1,rfl⟩:=List.mem_map.1 he;obtain⟨k',h2,rfl⟩:=List.mem_map.1 h1;exact⟨hψ _ (hL k' h2).1,hψ _ (hL k' h2).2⟩),h0]
   rfl
  ·have ih:=AG (es:=es) hψ L r ρ h hr hL';have hc:jF ψ ((k::L).map (eg es))=(ψ (eg es k).1,ψ (eg es k).2)::jF ψ (L.map (eg es)):=rfl;rw[hc];simp only[p9]
   by_cases hab:ρ (ψ (eg es k).1)=ρ (ψ (eg es k).2)
   ·rw[if_pos hab,Nat.add_zero,←ih];obtain⟨d,hd⟩:∃d,dg s ρ=d+1:=⟨dg s ρ-1,by omega⟩
    rw[hd];simp only[gw];rw[if_pos ((hr _ _ va vb).2 hab),List.nil_append]
   ·rw[if_neg hab,←ih];have hra:r (eg es k).1≠r (eg es k).2:=fun e=>hab ((hr _ _ va vb).1 e);have ih2:=AG (es:=es) hψ L (bP r (eg es k)) _ (h.step ha hb hab) (fun v w hv hw=>by
     rw[oX hra,GL hab,hr v w hv hw,hr v _ hv va,hr v _ hv vb,hr w _ hw va,hr w _ hw vb]) hL'
    have hd:=JF h ha hb hab;rw[hd];simp only[gw];rw[if_neg hra,List.length_append,List.length_map,ih2];omega
def eo (es:List (Int × Int)) (x:Nat) (k:Int):Bool:=decide (0≤k∧k<(es.length:Int)) && x.testBit (eg es k).1 && x.testBit (eg es k).2
theorem mb {es:List (Int × Int)} {x:Nat} {k:Int} (h:eo es x k=true):Vl es k∧x.testBit (eg es k).1=true∧x.testBit (eg es k).2=true:=by
 simp only[eo,Bool.and_eq_true,decide_eq_true_eq] at h;exact⟨h.1.1,h.1.2,h.2⟩
theorem MC {N:Nat} {es:List (Int × Int)} (h:Okay N es) (n:Nat) (x1 k:Int) (x:Nat) (hx:x<2 ^ 64):N6 n x1 es x k=some (eo es x k):=by
 unfold N6
 by_cases h1:0≤k
 ·by_cases h2:k<(es.length:Int)
  ·obtain⟨a,b,e1,e2,e3,e4,_,e5⟩:=eY h ⟨h1,h2⟩;have ha:a<64:=by omega
   simp only[decide_eq_true h1,decide_eq_true h2,bI,e5,aD,e1,ah,kR n x a hx ha,kR n x b hx e4,eo,e2,h1,h2,and_self,decide_true,Bool.true_and];cases x.testBit a<;>rfl
  ·simp only[decide_eq_true h1,decide_eq_false h2,bI,bK,eo,h2,and_false,decide_false,Bool.false_and]
 ·simp only[decide_eq_false h1,bK,eo,h1,false_and,decide_false,Bool.false_and]
theorem ko (n x a b:Nat) (hx:x<2 ^ 64) (ha:a<64) (hb:b<64):Jc n x (a:Int) (b:Int)=some (x.testBit a && x.testBit b):=by
 unfold Jc;rw[decide_eq_true (Int.natCast_nonneg a),decide_eq_true (Int.natCast_nonneg b),aD,aD,Int.toNat_natCast,Int.toNat_natCast,jH hx (by omega),jH hx (by omega)]
 cases x.testBit a<;>rfl
def wU (es:List (Int × Int)) (x:Nat):Int→List Int→Bool
 | _,[]=>true
 | p,k::l=>eo es x k && decide (p<k) && wU es x k l
theorem vI {es:List (Int × Int)} {x:Nat}:∀{l:List Int} {p:Int},wU es x p l=true→∀k ∈ l,eo es x k=true∧p<k
 | [],_,_,k,hk=>by cases hk
 | a::l,p,h,k,hk=>by
  simp only[wU,Bool.and_eq_true,decide_eq_true_eq] at h;rcases List.mem_cons.1 hk with rfl|hk
  ·exact h.1
  ·have:=vI h.2 k hk;exact⟨this.1,by omega⟩
theorem Cq {es:List (Int × Int)} {x:Nat}:∀{l:List Int} {p:Int},wU es x p l=true→l.Pairwise (· < ·)
 | [],_,_=>.nil
 | a::l,p,h=>by
  simp only[wU,Bool.and_eq_true,decide_eq_true_eq] at h;exact List.pairwise_cons.2 ⟨fun k hk=>(vI h.2 k hk).2,Cq h.2⟩
def Ki (l:List Int) (i:Nat) (p:Int):Prop:=(i=0∧p = -1)∨(0<i∧l[i-1]? = some p)
theorem MI {N:Nat} {es:List (Int × Int)} (h:Okay N es) (n0:Nat) (x1:Int) (x:Nat) (hx:x<2 ^ 64) (l:List Int) (hb:l.length<4611686018427387904):∀k i p n,Ki l i p→i+k=l.length→k<n→bG (qW n0 l x1 es x) n (i:Int)=some (if wU es x p (l.drop i) then .inr () else .inl ()):=by
 intro k
 induction k with
 | zero =>
  intro i p n hp hi hk;obtain⟨n,rfl⟩:∃n',n=n'+1:=⟨n-1,by omega⟩
  rw[List.drop_of_length_le (by omega)]
  exact aM (by unfold qW; rw[bf (by omega)]; rfl)
 | succ k ih =>
  intro i p n hp hi hk;obtain⟨n,rfl⟩:∃n',n=n'+1:=⟨n-1,by omega⟩
  have a1:i<l.length:=by omega
  have e1:l[((i:Nat):Int).toNat]? = some l[i]:=by simp[a1]
  rw[List.drop_eq_getElem_cons a1];have hnext:Ki l (i+1) l[i]:=.inr ⟨by omega,by simp[a1]⟩
  have hih:=ih (i+1) l[i] n hnext (by omega) (by omega)
  generalize l[i]=y at *;have key:qW n0 l x1 es x (i:Int)=if (eo es x y && decide (p<y))=true then some (.inl ((i+1:Nat):Int)) else some (.inr (.inl ())):=by
   unfold qW;simp only[decide_eq_true (show((i:Nat):Int)<(l.length:Int) by omega),bI,aw a1,aD,e1,ah,MC h n0 x1 y x hx]
   by_cases h1:eo es x y=true
   ·simp only[h1,Bool.not_true,bK,Bool.true_and,decide_eq_true_eq];rcases hp with⟨rfl,rfl⟩|⟨hi0,hp⟩
    ·have:(-1:Int)<y:=by have:=(mb h1).1.1; omega
     rw[if_pos this];simp[br,ob,aH]
     rfl
    ·have hi1:IntKind.wrap .i64 ((i:Int)-1)=((i-1:Nat):Int):=by rw[aR (by omega) (by omega)]; omega
     simp only[decide_eq_true (show(0:Int)<(i:Int) by omega),bI,hi1,aw (show i-1<l.length by omega),aD,Int.toNat_natCast,hp,ah]
     by_cases h2:p<y
     ·rw[if_pos h2,decide_eq_false (by omega),bK,aH (by omega)]
     ·rw[if_neg h2,decide_eq_true (by omega),bI]
   ·rw[Bool.not_eq_true] at h1;simp only[h1,Bool.not_false,bI,ah,Bool.false_and,Bool.false_eq_true,if_false]
  unfold wU
  by_cases h1:(eo es x y && decide (p<y))=true
  ·rw[if_pos h1] at key;rw[aU key,hih,h1,Bool.true_and]
  ·rw[if_neg h1] at key;rw[aM key];rw[Bool.not_eq_true] at h1;rw[h1,Bool.false_and]; rfl
structure Fst (p:List Int) (r:Nat→Nat):Prop where
 len:p.length=64
 at_:∀v,v<64→∃y:Nat,p[v]? = some (y:Int)∧y≤v∧(y=v→r v=v)∧(y≠v→r v=r y)
theorem Fst.root {p:List Int} {r:Nat→Nat} (h:Fst p r) (n0:Nat):∀(v n:Nat),v<64→v<n→bG (jW n0 p) n (v:Int)=some ((r v:Nat):Int):=by
 intro v
 induction v using Nat.strongRecOn with
 | _ v ih =>
  intro n hv hn;obtain⟨n,rfl⟩:∃n',n=n'+1:=⟨n-1,by omega⟩
  obtain⟨y,h1,h2,h3,h4⟩:=h.at_ v hv;have hb:bE (v:Int) p.length=true:=aw (by rw[h.len]; exact hv)
  by_cases hy:y=v
  ·rw[h3 hy];exact aM (by unfold jW; simp[hb,h1,hy,gd,ob,br])
  ·rw[h4 hy,aU (s':=(y:Int)) (by unfold jW; simp only[hb,aD,Int.toNat_natCast,h1,ah]; rw[decide_eq_false (by omega)]; rfl)]
   exact ih y (by omega) n (by omega) (by omega)
theorem wO {p:List Int} {r:Nat→Nat} (h:Fst p r) (n v:Nat) (hv:v<64) (hn:64<n):J0 n p (v:Int)=some ((r v:Nat):Int):=by
 unfold J0;rw[h.root n v n hv (by omega),ah]
theorem Fst.join {p:List Int} {r:Nat→Nat} {E:List (Nat × Nat)} (h:Fst p r) (hr:Rt r E) {e:Nat × Nat} (h1:e.1<64) (h2:e.2<64):Fst (p.set (max (r e.1) (r e.2)) ((min (r e.1) (r e.2):Nat):Int)) (bP r e):=by
 have l1:=hr.le e.1;have l2:=hr.le e.2;have hM:max (r e.1) (r e.2)<64:=by omega
 have hrM:r (max (r e.1) (r e.2))=max (r e.1) (r e.2):=by
  rcases Nat.le_total (r e.1) (r e.2) with g|g
  ·rw[Nat.max_eq_right g,hr.rr]
  ·rw[Nat.max_eq_left g,hr.rr]
 have hrm:r (min (r e.1) (r e.2))=min (r e.1) (r e.2):=by
  rcases Nat.le_total (r e.1) (r e.2) with g|g
  ·rw[Nat.min_eq_left g,hr.rr]
  ·rw[Nat.min_eq_right g,hr.rr]
 refine⟨by rw[List.length_set,h.len],fun v hv=>?_⟩
 simp only[bP]
 by_cases hvM:v=max (r e.1) (r e.2)
 ·subst hvM;refine⟨min (r e.1) (r e.2),by rw[List.getElem?_set_self (by rw[h.len]; exact hM)],by omega,fun hy=>?_,fun hy=>?_⟩
  ·rw[if_pos hrM]; exact hy
  ·rw[if_pos hrM,hrm,if_neg hy]
 ·obtain⟨y,g1,g2,g3,g4⟩:=h.at_ v hv;refine⟨y,by rw[List.getElem?_set_ne (fun e=>hvM e.symm)]; exact g1,g2,fun hy=>?_,fun hy=>?_⟩
  ·rw[g3 hy,if_neg hvM]
  ·rw[g4 hy]
theorem BQ (n:Nat) (hn:64<n):∃p,Ng n=some p∧Fst p (fun x=>x):=by
 have:=gE (body:=xQ n) 64 (fun(s:List Int) (v:Int)=>(s,v)) id (fun i s=>s.length=64∧∀v,v<i→s[v]? = some (v:Int)) (fun s i hi hI=>?_) (fun s _=>?_) (n:=n) (s:=List.replicate 64 (0:Int)) ⟨by simp,fun v hv=>absurd hv (Nat.not_lt_zero _)⟩ hn
 ·obtain⟨p,h1,h2,h3⟩:=this;refine⟨p,?_,h2,fun v hv=>⟨v,h3 v hv,Nat.le_refl _,fun _=>rfl,fun h=>absurd rfl h⟩⟩;unfold Ng;have e:(List.replicate (64:Int).toNat (0:Int))=List.replicate 64 0:=rfl;rw[e,decide_eq_true (by decide),aD,show nK ((64:Int).toNat)=true from rfl,aD,h1]; rfl
 ·refine⟨s.set i (i:Int),?_,by rw[List.length_set]; exact hI.1,fun v hv=>?_⟩
  ·unfold xQ;have e:((64:Int).toNat)=64:=rfl;have hs:s[i]? = some (s[i]'(by rw[hI.1]; exact hi)):=List.getElem?_eq_getElem _
   simp only[e,decide_eq_true (show((i:Nat):Int)<((64:Nat):Int) by omega),bI,aw hi,aD,Int.toNat_natCast,hs,ah,aH (show i<4611686018427387904 by omega)]
  ·by_cases hvi:v=i
   ·subst hvi; rw[List.getElem?_set_self (by rw[hI.1]; exact hi)]
   ·rw[List.getElem?_set_ne (fun e=>hvi e.symm)]; exact hI.2 v (by omega)
 ·unfold xQ;simp[br]
def Nf (es:List (Int × Int)) (x:Nat):Int→(Nat→Nat)→List Int→Bool
 | _,_,[]=>true
 | p,r,k::l=>decide (p<k) && eo es x k && !(r (eg es k).1 == r (eg es k).2) && Nf es x k (bP r (eg es k)) l
theorem GM (es:List (Int × Int)) (x:Nat):∀(l:List Int) (p:Int) (r:Nat→Nat),Nf es x p r l=(wU es x p l && bj r (l.map (eg es)))
 | [],_,_=>rfl
 | k::l,p,r=>by
  simp only[Nf,wU,List.map_cons,bj];rw[GM es x l];cases decide (p<k)<;>cases eo es x k<;>cases(r (eg es k).1 == r (eg es k).2)<;>cases wU es x k l<;>cases bj (bP r (eg es k)) (l.map (eg es))<;>rfl
theorem Kv {N:Nat} {es:List (Int × Int)} (h:Okay N es) (n0:Nat) (x:Nat) (hx:x<2 ^ 64) (hn0:64<n0) (l:List Int) (hb:l.length<4611686018427387904):∀k i last p r E n,Fst p r→Rt r E→-1≤last→i+k=l.length→k<n→bG (lL n0 l es x) n (p,p.length,last,(i:Int))=some (if Nf es x last r (l.drop i) then .inr () else .inl ()):=by
 intro k
 induction k with
 | zero =>
  intro i last p r E n hp hr hlast hi hk;obtain⟨n,rfl⟩:∃n',n=n'+1:=⟨n-1,by omega⟩
  rw[List.drop_of_length_le (by omega)]
  exact aM (by unfold lL; simp only; rw[bf (by omega)]; rfl)
 | succ k ih =>
  intro i last p r E n hp hr hlast hi hk;obtain⟨n,rfl⟩:∃n',n=n'+1:=⟨n-1,by omega⟩
  have a1:i<l.length:=by omega
  have e1:l[((i:Nat):Int).toNat]? = some l[i]:=by simp[a1]
  rw[List.drop_eq_getElem_cons a1];have e2:l[i]? = some (l[i]'a1):=by simp[a1]
  have hih:=fun p r E hp hr hl=>ih (i+1) (l[i]'a1) p r E n hp hr hl (by omega) (by omega)
  generalize l[i]=y at *;unfold Nf
  by_cases h1:last<y
  ·by_cases h2:y<(es.length:Int)
   ·obtain⟨a,b,g1,g2,g3,g4,_,g5⟩:=eY h (k:=y) ⟨by omega,h2⟩
    have ha:a<64:=by omega
    have hin:eo es x y=(x.testBit a && x.testBit b):=by
     simp only[eo,g2];rw[decide_eq_true ⟨by omega,h2⟩,Bool.true_and]
    rw[decide_eq_true h1,Bool.true_and,hin,g2];simp only
    by_cases h3:(x.testBit a && x.testBit b)=true
    ·have hM:max (r a) (r b)<p.length:=by rw[hp.len]; have:=hr.le a; have:=hr.le b; omega
     have hma:ma ((r a:Nat):Int) ((r b:Nat):Int)=((max (r a) (r b):Nat):Int):=by simp only[ma]; omega
     have hmi:mi ((r a:Nat):Int) ((r b:Nat):Int)=((min (r a) (r b):Nat):Int):=by simp only[mi]; omega
     have hpM:p[max (r a) (r b)]? = some (p[max (r a) (r b)]'hM):=List.getElem?_eq_getElem _;have key:lL n0 l es x (p,p.length,last,(i:Int))=if r a=r b then some (.inr (.inl ())) else some (.inl (p.set (max (r a) (r b)) ((min (r a) (r b):Nat):Int),(p.set (max (r a) (r b)) ((min (r a) (r b):Nat):Int)).length,y,((i+1:Nat):Int))):=by
      unfold lL;simp only[decide_eq_true (show((i:Nat):Int)<(l.length:Int) by omega),bI,aw a1,aD,e1,e2,ah,decide_eq_false (show ¬y≤last by omega),bK,decide_eq_false (show ¬(es.length:Int)≤y by omega),g5,g1,ko n0 x a b hx ha g4,h3,Bool.not_true,wO hp n0 a ha hn0,wO hp n0 b g4 hn0,hma,hmi,aw hM,Int.toNat_natCast,hpM,aH (show i<4611686018427387904 by omega),List.length_set]
      by_cases h5:r a=r b
      ·rw[if_pos h5,decide_eq_true (by omega)]; rfl
      ·rw[if_neg h5,decide_eq_false (by omega)]; rfl
     by_cases h5:r a=r b
     ·rw[if_pos h5] at key;rw[aM key,h3,h5];simp
     ·rw[if_neg h5] at key;rw[aU key,hih _ _ _ (hp.join hr (e:=(a,b)) ha g4) (hr.join (a,b)) (by omega),h3]
      have:(r a == r b)=false:=by simpa using h5
      rw[this];simp only[Bool.not_false,Bool.true_and]
    ·rw[Bool.not_eq_true] at h3;rw[aM (r:=.inl ()) (by
      unfold lL;simp only[decide_eq_true (show((i:Nat):Int)<(l.length:Int) by omega),bI,aw a1,aD,e1,ah,decide_eq_false (show ¬y≤last by omega),bK,decide_eq_false (show ¬(es.length:Int)≤y by omega),g5,g1,ko n0 x a b hx ha g4,h3,Bool.not_false]),h3]
     simp
   ·have hin:eo es x y=false:=by
     simp only[eo];rw[decide_eq_false (fun g=>h2 g.2),Bool.false_and,Bool.false_and]
    rw[aM (r:=.inl ()) (by
     unfold lL;simp only[decide_eq_true (show((i:Nat):Int)<(l.length:Int) by omega),bI,aw a1,aD,e1,ah,decide_eq_false (show ¬y≤last by omega),bK,decide_eq_true (show(es.length:Int)≤y by omega)]),hin]
    simp
  ·rw[aM (r:=.inl ()) (by
    unfold lL;simp only[decide_eq_true (show((i:Nat):Int)<(l.length:Int) by omega),bI,aw a1,aD,e1,ah,decide_eq_true (show y≤last by omega)]),decide_eq_false h1]
   simp
def Ht (es:List (Int × Int)) (x:Nat) (l:List Int):Bool:=wU es x (-1) l && decide (l.length+1=rk x 64) && bj (fun v=>v) (l.map (eg es))
def Po (N:Int) (es:List (Int × Int)) (x:Nat) (l:List Int):Int:=if pN N es then(if x=0∨2 ^ N.toNat≤x then 2 else if Ht es x l then 0 else 300) else 180
theorem size_eq {l:List Int} {x:Nat} (hb:l.length<4611686018427387904) (h0:1≤rk x 64):decide ((l.length:Int)=IntKind.wrap .i64 (((rk x 64:Nat):Int)-1))=decide (l.length+1=rk x 64):=by
 have h1:rk x 64≤64:=dO _ _;rw[aR (by omega) (by omega)]
 by_cases h:l.length+1=rk x 64
 ·rw[decide_eq_true h,decide_eq_true (by omega)]
 ·rw[decide_eq_false h,decide_eq_false (by omega)]
theorem nT {x:Nat} (hx:x<2 ^ 64) (h0:x≠0):1≤rk x 64:=by
 have:=ft (Nat.pos_of_ne_zero h0) hx;exact zY this.1 (gV hx this.1)
theorem FJ (n:Nat) (N:Int) (es:List (Int × Int)) (x:Nat) (l:List Int) (hx:x<2 ^ 64) (hb:l.length<4611686018427387904) (hl:es.length<4611686018427387904) (hk:es.length<n) (hn:64<n) (hln:l.length<n):Nc n N es x l=some (Po N es x l):=by
 unfold Nc Kd Po;rw[AJ n N es (by omega) hl hk,ah]
 by_cases hok:pN N es=true
 ·obtain⟨M,rfl,hO⟩:=p7 hok;simp only[Ll,hok,if_true,decide_true,Bool.not_true,bK,Int.toNat_natCast]
  by_cases h0:x=0
  ·simp[h0,br,ob]
  ·rw[wh n x hx];simp only[decide_eq_false h0,bK,ah,h0,false_or]
   by_cases h2:2 ^ M≤x
   ·have:M<bl x:=ja.2 h2;rw[decide_eq_true (show((M:Nat):Int)<((bl x:Nat):Int) by omega),if_pos h2]; rfl
   ·have:¬M<bl x:=fun g=>h2 (ja.1 g);rw[decide_eq_false (show ¬((M:Nat):Int)<((bl x:Nat):Int) by omega),if_neg h2]
    obtain⟨p,hp1,hp2⟩:=BQ n hn;have:=Kv hO n x hx hn l hb l.length 0 (-1) p (fun v=>v) [] n hp2 Rt.id (Int.le_refl _) (by omega) hln
    rw[List.drop_zero] at this;simp only[bK,ah,decide_true,decide_false,Bool.not_true,hp1];have t2:bG (lL n l es x) n (p,p.length,-1,0)=some (if Nf es x (-1) (fun v=>v) l then .inr () else .inl ()):=this
    rw[t2,ah,GM,Kp n x hx];unfold Ht;cases hr:wU es x (-1) l<;>cases ha:bj (fun v=>v) (l.map (eg es))<;>simp only[Bool.and_true,Bool.and_false,Bool.true_and,Bool.false_and,if_true,Bool.false_eq_true,if_false,ah,decide_false,bK,decide_true,Bool.not_true,size_eq hb (nT hx h0)];cases decide (l.length+1=rk x 64)<;>rfl
 ·rw[Bool.not_eq_true] at hok;simp[Ll,hok,br,ob]
theorem lB (x:Nat):(bW x 64).Nodup:=(CD x 64).imp fun h=>Nat.ne_of_lt h
theorem nu {N:Nat} {es:List (Int × Int)} (h:Okay N es) {x:Nat} {l:List Int} (hl:∀k ∈ l,eo es x k=true):∀e ∈ l.map (eg es),e.1 ∈ bW x 64∧e.2 ∈ bW x 64:=fun e he=>by
 obtain⟨k,hk,rfl⟩:=List.mem_map.1 he;obtain⟨h1,h2,h3⟩:=mb (hl k hk);obtain⟨a,b,_,g2,g3,g4,_⟩:=eY h h1;rw[g2] at h2 h3 ⊢;exact⟨bT.2 ⟨Nat.lt_trans g3 g4,h2⟩,bT.2 ⟨g4,h3⟩⟩
theorem Ae {N:Nat} {es:List (Int × Int)} (h:Okay N es) {x v j:Nat} {l:List Int} (hl:∀k ∈ l,eo es x k=true) (hv:x.testBit v=true) (hc:Cn (l.map (eg es)) v j):x.testBit j=true :=
 hc.closed (Q:=fun j=>x.testBit j=true) hv fun a b _ hn=>by
  rcases hn with hn|hn
  ·exact(bT.1 (nu h hl _ hn).2).2
  ·exact(bT.1 (nu h hl _ hn).1).2
theorem Hs {N:Nat} {es:List (Int × Int)} (h:Okay N es) {x v:Nat} {l:List Int} (hx:x<2 ^ 64) (hl:∀k ∈ l,eo es x k=true) (hlen:l.length+1=rk x 64) (hv:x.testBit v=true):bj (fun v=>v) (l.map (eg es))=true↔∀j,x.testBit j=true→Cn (l.map (eg es)) v j:=by
 have h1:=gV hx hv;rw[D3 (lB x) (nu h hl) (bT.2 ⟨h1,hv⟩) (by rw[List.length_map]; exact hlen)]
 exact⟨fun g j hj=>g j (bT.2 ⟨gV hx hj,hj⟩),fun g j hj=>g j (bT.1 hj).2⟩
theorem H8 {x:Nat} (hx:x<2 ^ 64) (h0:x≠0):x.testBit (tz x)=true∧tz x<64:=by
 have:=ft (Nat.pos_of_ne_zero h0) hx;exact⟨this.1,gV hx this.1⟩
theorem Jv {es:List (Int × Int)} {x:Nat} {l:List Int} (h:Ht es x l=true):(∀k ∈ l,eo es x k=true)∧l.length+1=rk x 64∧bj (fun v=>v) (l.map (eg es))=true∧l.Pairwise (· < ·):=by
 simp only[Ht,Bool.and_eq_true,decide_eq_true_eq] at h;exact⟨fun k hk=>(vI h.1.1 k hk).1,h.1.2,h.2,Cq h.1.1⟩
def wX (es:List (Int × Int)) (l:List Int) (v:Nat):Nat:=Nh (l.map (eg es)) 64 (2 ^ v)
theorem mQ {N:Nat} {es:List (Int × Int)} (h:Okay N es) {l:List Int} (hl:∀k ∈ l,Vl es k) {v j:Nat} (hv:v<64):(wX es l v).testBit j=true↔Cn (l.map (eg es)) v j:=(qu (ji h hl) hv).2 j
def ke (es:List (Int × Int)) (at_:Nat) (k:Int):Bool:=decide ((eg es k).1=at_) || decide ((eg es k).2=at_)
def ie (es:List (Int × Int)) (at_:Nat) (k:Int):Nat:=(eg es k).1+(eg es k).2-at_
def cA (es:List (Int × Int)) (l:List Int) (at_ to:Nat) (k:Int):Bool:=ke es at_ k && (wX es (wo l k) (ie es at_ k)).testBit to
def cB (es:List (Int × Int)) (rest:List Int) (at_ to:Nat) (k:Int):Bool:=ke es at_ k && !(wX es (wo rest k) at_).testBit to
theorem fq {es:List (Int × Int)} {at_:Nat} {k:Int} (h:ke es at_ k=true):eg es k=(at_,ie es at_ k)∨eg es k=(ie es at_ k,at_):=by
 simp only[ke,Bool.or_eq_true,decide_eq_true_eq] at h;unfold ie;generalize eg es k=e at *;obtain⟨a,b⟩:=e;simp only at h ⊢;rcases h with rfl|rfl
 ·exact .inl (by simp)
 ·exact .inr (by simp)
structure Tr (N:Nat) (es:List (Int × Int)) (x:Nat) (l:List Int):Prop where
 ok:Okay N es
 hx:x<2 ^ 64
 h0:x≠0
 eo:∀k ∈ l,eo es x k=true
 len:l.length+1=rk x 64
 all:bj (fun v=>v) (l.map (eg es))=true
 asc:l.Pairwise (· < ·)
section
variable {N : Nat} {es : List (Int × Int)} {x : Nat} {l : List Int} {at_ to : Nat} {k : Int}
theorem Tr.vl (h:Tr N es x l):∀k ∈ l,Vl es k:=fun k hk=>(mb (h.eo k hk)).1
theorem Tr.cn (h:Tr N es x l) {a b:Nat} (ha:x.testBit a=true) (hb:x.testBit b=true):Cn (l.map (eg es)) a b:=(Hs h.ok h.hx h.eo h.len ha).1 h.all b hb
theorem q7 {k k':Int}:k' ∈ wo l k↔k' ∈ l∧k'≠k:=⟨dt,fun h=>rv h.1 h.2⟩
theorem Tr.Fv (h:Tr N es x l) (hk:k ∈ l):¬Cn ((wo l k).map (eg es)) (eg es k).1 (eg es k).2:=by
 obtain⟨ht1,ht2⟩:=H8 h.hx h.h0;refine ym (lB x) (nu h.ok h.eo) (bT.2 ⟨ht2,ht1⟩) (by rw[List.length_map]; exact h.len) (fun y hy=>h.cn ht1 (bT.1 hy).2) (fun e=>?_) ?_
 ·constructor
  ·intro he;obtain⟨k',hk',rfl⟩:=List.mem_map.1 he
   by_cases hkk:k'=k
   ·subst hkk; exact .inl rfl
   ·exact .inr (List.mem_map.2 ⟨k',q7.2 ⟨hk',hkk⟩,rfl⟩)
  ·rintro(rfl|he)
   ·exact List.mem_map.2 ⟨k,hk,rfl⟩
   ·obtain⟨k',hk',rfl⟩:=List.mem_map.1 he;exact List.mem_map.2 ⟨k',(dt hk').1,rfl⟩
 ·rw[List.length_map,List.length_map];have h1:=@JM l k;have h2:(wo l k).length≠l.length:=fun e=>zS.1 e hk;omega
theorem Tr.pU (h:Tr N es x l) (hk:k ∈ l) (ht:ke es at_ k=true):¬Cn ((wo l k).map (eg es)) at_ (ie es at_ k):=fun hc=>by
 have:=h.Fv hk;rcases fq ht with e|e
 ·rw[e] at this; exact this hc
 ·rw[e] at this; exact this hc.symm
theorem Tr.qt (h:Tr N es x l) (hk:k ∈ l) (ht:ke es at_ k=true):x.testBit (ie es at_ k)=true∧ie es at_ k<64:=by
 obtain⟨_,h1,h2⟩:=mb (h.eo k hk);rcases fq ht with e|e
 ·rw[e] at h2; exact⟨h2,gV h.hx h2⟩
 ·rw[e] at h1; exact⟨h1,gV h.hx h1⟩
theorem behind {R:List Int} (hR:k ∈ R) (hc:Cn (R.map (eg es)) at_ to) (ht:ke es at_ k=true) (hn:¬Cn ((wo R k).map (eg es)) at_ to):Cn ((wo R k).map (eg es)) (ie es at_ k) to:=by
 have hc':Cn (eg es k::(wo R k).map (eg es)) at_ to:=(qg fun e=>by
  rw[List.mem_cons];constructor
  ·intro he;obtain⟨k',hk',rfl⟩:=List.mem_map.1 he
   by_cases hkk:k'=k
   ·exact .inl (by rw[hkk])
   ·exact .inr (List.mem_map.2 ⟨k',q7.2 ⟨hk',hkk⟩,rfl⟩)
  ·rintro(rfl|he)
   ·exact List.mem_map.2 ⟨k,hR,rfl⟩
   ·obtain⟨k',hk',rfl⟩:=List.mem_map.1 he;exact List.mem_map.2 ⟨k',(dt hk').1,rfl⟩).1 hc
 rcases fq ht with e|e<;>rw[e] at hc'<;>rcases qn.1 hc' with g|⟨g1,g2⟩|⟨g1,g2⟩
 ·exact absurd g hn
 ·exact g2
 ·exact absurd g2 hn
 ·exact absurd g hn
 ·exact absurd g2 hn
 ·exact g2
theorem Tr.D4 (h:Tr N es x l) {P:Int→Bool} (hat:at_<64) (hc:Cn ((l.filter P).map (eg es)) at_ to) (hk:k ∈ l):cA es l at_ to k=(P k && cB es (l.filter P) at_ to k):=by
 unfold cA cB
 by_cases ht:ke es at_ k=true
 ·have ho:=h.qt hk ht;have hRs:∀k' ∈ wo (l.filter P) k,k' ∈ wo l k:=fun k' hk'=>q7.2 ⟨(List.mem_filter.1 (dt hk').1).1,(dt hk').2⟩;have hv1:∀k' ∈ wo l k,Vl es k':=fun k' hk'=>h.vl k' (dt hk').1;have hA:=mQ h.ok hv1 (v:=ie es at_ k) (j:=to) ho.2;have hB:=mQ h.ok (fun k' hk'=>hv1 k' (hRs k' hk')) (v:=at_) (j:=to) hat;have hmono:∀{a b},Cn ((wo (l.filter P) k).map (eg es)) a b→Cn ((wo l k).map (eg es)) a b:=fun g=>g.mono fun e he=>by
   obtain⟨k',hk',rfl⟩:=List.mem_map.1 he;exact List.mem_map.2 ⟨k',hRs k' hk',rfl⟩
  rw[ht,Bool.true_and,Bool.true_and,Bool.eq_iff_iff,Bool.and_eq_true,Bool.not_eq_true',←Bool.not_eq_true,hA,hB];constructor
  ·intro g;have hno:¬Cn ((wo (l.filter P) k).map (eg es)) at_ to:=fun g2=>h.pU hk ht ((hmono g2).trans g.symm);refine⟨?_,hno⟩;refine Classical.byContradiction fun hP=>hno ?_;have:wo (l.filter P) k=l.filter P:=by
    have:=(@zS (l.filter P) k).2 fun hm=>hP (List.mem_filter.1 hm).2;unfold wo at this ⊢;exact List.filter_eq_self.2 (List.length_filter_eq_length_iff.1 this)
   rw[this]; exact hc
  ·rintro⟨hP,hno⟩;exact hmono (behind (List.mem_filter.2 ⟨hk,hP⟩) hc ht hno)
 ·rw[Bool.not_eq_true] at ht;rw[ht]; simp
theorem Tr.Dq (h:Tr N es x l) {P:Int→Bool} (hat:at_<64) (hne:at_≠to) (hc:Cn ((l.filter P).map (eg es)) at_ to):∃k ∈ l.filter P,cB es (l.filter P) at_ to k=true:=by
 obtain⟨v,h1,h2,h3⟩:=KC (B:=((l.filter P).filter fun k=>!ke es at_ k).map (eg es)) hne hc (fun e he=>by
  obtain⟨k,hk,rfl⟩:=List.mem_map.1 he
  by_cases ht:ke es at_ k=true
  ·simp only[ke,Bool.or_eq_true,decide_eq_true_eq] at ht;exact .inr ht
  ·exact .inl (List.mem_map.2 ⟨k,List.mem_filter.2 ⟨hk,by simpa using ht⟩,rfl⟩)) (fun e he=>by
  obtain⟨k,hk,rfl⟩:=List.mem_map.1 he;have:=(List.mem_filter.1 hk).2;simp only[ke,Bool.not_eq_true',Bool.or_eq_false_iff,decide_eq_false_iff_not] at this;exact this)
 have hkey:∃k ∈ l.filter P,(eg es k=(at_,v)∨eg es k=(v,at_)):=by
  rcases h1 with h1|h1
  ·obtain⟨k,hk,e⟩:=List.mem_map.1 h1; exact⟨k,hk,.inl e⟩
  ·obtain⟨k,hk,e⟩:=List.mem_map.1 h1; exact⟨k,hk,.inr e⟩
 obtain⟨k,hk,he⟩:=hkey;have hkl:=(List.mem_filter.1 hk).1;have ht:ke es at_ k=true:=by
  simp only[ke,Bool.or_eq_true,decide_eq_true_eq];rcases he with he|he<;>rw[he]<;>simp
 have ho:ie es at_ k=v:=by
  unfold ie;rcases he with he|he<;>rw[he]<;>simp
 refine⟨k,hk,?_⟩;unfold cB;rw[ht,Bool.true_and,Bool.not_eq_true',←Bool.not_eq_true,mQ h.ok (fun k' hk'=>h.vl k' (List.mem_filter.1 (dt hk').1).1) hat];intro g;refine h.pU hkl ht ?_;rw[ho];have m1:∀{a b},Cn (((l.filter P).filter fun k=>!ke es at_ k).map (eg es)) a b→Cn ((wo l k).map (eg es)) a b:=fun g=>g.mono fun e he=>by
  obtain⟨k',hk',rfl⟩:=List.mem_map.1 he;obtain⟨g1,g2⟩:=List.mem_filter.1 hk';refine List.mem_map.2 ⟨k',q7.2 ⟨(List.mem_filter.1 g1).1,fun e=>?_⟩,rfl⟩;rw[e,ht] at g2; cases g2
 have m2:∀{a b},Cn ((wo (l.filter P) k).map (eg es)) a b→Cn ((wo l k).map (eg es)) a b:=fun g=>g.mono fun e he=>by
  obtain⟨k',hk',rfl⟩:=List.mem_map.1 he;exact List.mem_map.2 ⟨k',q7.2 ⟨(List.mem_filter.1 (dt hk').1).1,(dt hk').2⟩,rfl⟩
 exact(m2 g).trans (m1 h2).symm
end
theorem sx {a k:Nat} (ha:a<2 ^ 64) (h:k≤64):decide (uw .u64 (uw .u64 (bu .u64 a k) &&& uw .u64 1)=0) = !a.testBit k:=by
 rw[←jH ha h];have hle:uw .u64 (uw .u64 (bu .u64 a k) &&& uw .u64 1)≤1:=by
  have h1:uw .u64 (bu .u64 a k) &&& uw .u64 1≤1:=Nat.and_le_right;have h2:uw .u64 (uw .u64 (bu .u64 a k) &&& uw .u64 1)≤uw .u64 (bu .u64 a k) &&& uw .u64 1:=Nat.mod_le _ _;omega
 generalize uw .u64 (uw .u64 (bu .u64 a k) &&& uw .u64 1)=v at *
 by_cases h0:v=0
 ·subst h0; rfl
 ·have:v=1:=by omega
  subst this; rfl
section
variable {N : Nat} {es : List (Int × Int)} {x : Nat} {l : List Int} {at_ to : Nat}
theorem HT {a b at_:Nat} {k:Int} (he:eg es k=(a,b)) (ha:a<64) (hb:b<64) (hat:at_<64) (ht:ke es at_ k=true):IntKind.wrap .i64 ((IntKind.wrap .i64 ((a:Int)+(b:Int)))-(at_:Int))=((ie es at_ k:Nat):Int):=by
 rw[aR (x:=(a:Int)+(b:Int)) (by omega) (by omega),aR (by omega) (by omega)]
 simp only[ke,he,Bool.or_eq_true,decide_eq_true_eq] at ht;unfold ie;rw[he];simp only;omega
theorem Fp (h:Okay N es) (hl:∀k ∈ l,Vl es k) (but x1:Int) (n v:Nat) (hb:l.length<4611686018427387904) (hn:l.length<n) (hn2:70<n) (hv:v<64):JR n x1 es l but (v:Int)=some (wX es (wo l but) v):=by
 obtain⟨w,h1,h2⟩:=JE h hl but x1 n v hb hn hn2 hv;rw[h1,h2.uniq (qu (ji h fun k hk=>hl k (dt hk).1) hv)]; rfl
theorem Gn (h:Okay N es) (hl:∀k ∈ l,Vl es k) {v:Nat} (hv:v<64):wX es l v<2 ^ 64:=(qu (ji h hl) hv).1
theorem Tr.Gf (h:Tr N es x l) (n0:Nat) (x1:Int) (way:List Int) (hb:l.length<4611686018427387904) (hn0:l.length<n0) (hn2:70<n0) (hat:at_<64) (hto:to<64) (hway:way.length<1000):∀k i n,i+k=l.length→k<n→bG (qP n0 l es x1 (to:Int) way) n ((at_:Int),(i:Int))=some (match (l.drop i).find? (cA es l at_ to) with
  | some k=>.inl (way++[((ie es at_ k:Nat):Int)],((ie es at_ k:Nat):Int))
  | none=>.inr (at_:Int)):=by
 intro k
 induction k with
 | zero =>
  intro i n hi hk;obtain⟨n,rfl⟩:∃n',n=n'+1:=⟨n-1,by omega⟩
  rw[List.drop_of_length_le (by omega)]
  exact aM (by unfold qP; simp only; rw[bf (by omega)]; rfl)
 | succ k ih =>
  intro i n hi hk;obtain⟨n,rfl⟩:∃n',n=n'+1:=⟨n-1,by omega⟩
  have a1:i<l.length:=by omega
  have e1:l[((i:Nat):Int).toNat]? = some (l[i]'a1):=by simp[a1]
  have e2:l[i]? = some (l[i]'a1):=by simp[a1]
  have hkl:l[i]'a1 ∈ l:=List.getElem_mem a1;rw[List.drop_eq_getElem_cons a1,List.find?_cons];have hih:=ih (i+1) n (by omega) (by omega)
  generalize l[i]'a1=y at *;obtain⟨a,b,g1,g2,g3,g4,_,g5⟩:=eY h.ok (h.vl y hkl);have ha:a<64:=by omega
  have key:qP n0 l es x1 (to:Int) way ((at_:Int),(i:Int))=if cA es l at_ to y=true then some (.inr (.inl (way++[((ie es at_ y:Nat):Int)],((ie es at_ y:Nat):Int)))) else some (.inl ((at_:Int),((i+1:Nat):Int))):=by
   unfold qP;simp only[decide_eq_true (show((i:Nat):Int)<(l.length:Int) by omega),bI,aw a1,aD,e1,ah,g5,g1]
   by_cases ht:ke es at_ y=true
   ·have ho:=h.qt hkl ht;have hlt:wX es (wo l y) (ie es at_ y)<2 ^ 64:=Gn h.ok (fun k hk=>h.vl k (dt hk).1) ho.2;have hlim:nK (way++[((ie es at_ y:Nat):Int)]).length=true:=ga (by rw[List.length_append]; simp only[List.length_singleton]; omega)
    have hcA:cA es l at_ to y=(wX es (wo l y) (ie es at_ y)).testBit to:=by unfold cA; rw[ht,Bool.true_and]
    rw[HT g2 ha g4 hat ht,Fp h.ok h.vl y x1 n0 _ hb hn0 hn2 ho.2,ah,decide_eq_true (Int.natCast_nonneg to),aD,Int.toNat_natCast,sx hlt (by omega),hcA,hlim,aH (show i<4611686018427387904 by omega),aD]
    have ht':(a:Int)=at_∨(b:Int)=at_:=by
     simp only[ke,g2,Bool.or_eq_true,decide_eq_true_eq] at ht; omega
    by_cases hA:(a:Int)=at_
    ·rw[decide_eq_true hA];cases(wX es (wo l y) (ie es at_ y)).testBit to<;>rfl
    ·have hB:(b:Int)=at_:=ht'.resolve_left hA;rw[decide_eq_false hA,decide_eq_true hB];cases(wX es (wo l y) (ie es at_ y)).testBit to<;>rfl
   ·have ht':¬((a:Int)=at_∨(b:Int)=at_):=by
     intro g; apply ht;simp only[ke,g2,Bool.or_eq_true,decide_eq_true_eq]; omega
    have hcA:cA es l at_ to y=false:=by unfold cA; rw[Bool.not_eq_true] at ht; rw[ht]; rfl
    rw[decide_eq_false (fun e=>ht' (.inl e)),decide_eq_false (fun e=>ht' (.inr e)),hcA,aH (show i<4611686018427387904 by omega)]; rfl
  cases hcA:cA es l at_ to y with
  | true=>rw[if_pos hcA] at key; rw[aM key]
  | false=>rw[if_neg (by rw[hcA]; decide)] at key; rw[aU key,hih]
theorem find_congr {α:Type} {p q:α→Bool}:∀{l:List α},(∀k ∈ l,p k=q k)→l.find? p=l.find? q
 | [],_=>rfl
 | a::l,h=>by
  rw[List.find?_cons,List.find?_cons,h a (by simp),find_congr fun k hk=>h k (by simp[hk])]
theorem kQ {α:Type} {p q:α→Bool}:∀{l:List α},(l.filter p).find? q=l.find? fun k=>p k && q k
 | []=>rfl
 | a::l=>by
  by_cases h:p a=true
  ·rw[List.filter_cons_of_pos h,List.find?_cons,List.find?_cons,kQ,h,Bool.true_and]
  ·rw[List.filter_cons_of_neg h,List.find?_cons,kQ];rw[Bool.not_eq_true] at h;rw[h]; rfl
end
def Iq (M x:Nat) (y:Int):Bool:=decide (0≤y∧y<(M:Int)) && x.testBit y.toNat
theorem qZ (n0 M x:Nat) (f t:Int) (i:Nat) (y:Int) (hM:M≤64) (hx:x<2 ^ 64) (hi:i<2) (hy:[f,t][i]? = some y):sy n0 f t (M:Int) x (i:Int)=if Iq M x y=true then some (.inl ((i+1:Nat):Int)) else some (.inr (.inl ())):=by
 unfold sy;have e1:[f,t][((i:Nat):Int).toNat]? = some y:=by rw[Int.toNat_natCast]; exact hy
 simp only[decide_eq_true (show((i:Nat):Int)<2 by omega),bI,aw hi,aD,e1,ah]
 unfold Iq
 by_cases h1:0≤y
 ·by_cases h2:y<(M:Int)
  ·rw[decide_eq_false (show ¬y<0 by omega),decide_eq_false (show ¬(M:Int)≤y by omega),decide_eq_true h1,sx hx (show y.toNat≤64 by omega),decide_eq_true ⟨h1,h2⟩,aH (by omega)]
   cases x.testBit y.toNat<;>rfl
  ·rw[decide_eq_false (show ¬y<0 by omega),decide_eq_true (show(M:Int)≤y by omega),decide_eq_false (show ¬(0≤y∧y<(M:Int)) from fun g=>h2 g.2)]; rfl
 ·rw[decide_eq_true (show y<0 by omega),decide_eq_false (show ¬(0≤y∧y<(M:Int)) from fun g=>h1 g.1)]; rfl
theorem HE (n0 M x:Nat) (f t:Int) (hM:M≤64) (hx:x<2 ^ 64) (n:Nat) (hn:2<n):bG (sy n0 f t (M:Int) x) n 0=some (if (Iq M x f && Iq M x t)=true then .inr () else .inl ()):=by
 obtain⟨n,rfl⟩:∃k,n=k+3:=⟨n-3,by omega⟩
 have s0:=qZ n0 M x f t 0 f hM hx (by omega) rfl
 have s1:=qZ n0 M x f t 1 t hM hx (by omega) rfl
 have s2:sy n0 f t (M:Int) x ((2:Nat):Int)=some (.inr (.inr ())):=by unfold sy; rfl
 by_cases h1:Iq M x f=true
 ·rw[if_pos h1] at s0;rw[show(0:Int)=((0:Nat):Int) from rfl,aU s0]
  by_cases h2:Iq M x t=true
  ·rw[if_pos h2] at s1;rw[aU s1,aM s2,h1,h2]; rfl
  ·rw[if_neg h2] at s1;rw[aM s1,h1,Bool.not_eq_true] at *;rw[h2]; rfl
 ·rw[if_neg h1] at s0;rw[show(0:Int)=((0:Nat):Int) from rfl,aM s0]
  rw[Bool.not_eq_true] at h1;rw[h1]; rfl
theorem MM (n0:Nat) (l:List Int) (hb:l.length<4611686018427387904):∀k i n,i+k=l.length→k<n→bG (tu n0 l l) n (i:Int)=some (.inr ()):=by
 intro k
 induction k with
 | zero =>
  intro i n hi hk;obtain⟨n,rfl⟩:∃n',n=n'+1:=⟨n-1,by omega⟩
  exact aM (by unfold tu; rw[bf (by omega)])
 | succ k ih =>
  intro i n hi hk;obtain⟨n,rfl⟩:∃n',n=n'+1:=⟨n-1,by omega⟩
  have a1:i<l.length:=by omega
  have e1:l[((i:Nat):Int).toNat]? = some (l[i]'a1):=by simp[a1]
  rw[aU (s':=((i+1:Nat):Int)) (by unfold tu; simp only[decide_eq_true (show((i:Nat):Int)<(l.length:Int) by omega),bI,aw a1,aD,e1,ah,decide_true,Bool.not_true,bK,aH (show i<4611686018427387904 by omega)])]
  exact ih (i+1) n (by omega) (by omega)
theorem D0 (n:Nat) (l:List Int) (hb:l.length<4611686018427387904) (hn:l.length<n):OQ n l l=some true:=by
 unfold OQ;rw[decide_eq_true rfl,Bool.not_true,bK,show bG (tu n l l) n 0=_ from MM n l hb l.length 0 n (by omega) hn]; rfl
theorem ub {a i:Nat} (ha:a<2 ^ 64) (hi:i<64):uw .u64 (uw .u64 a ||| uw .u64 (2 ^ i))=a ||| 2 ^ i:=fH ha (dB hi)
theorem NJ {a i:Nat} (hi:i<64):rk (a ||| 2 ^ i) 64≤rk a 64+1:=by
 have key:∀(l:List Nat),l.Nodup→(l.filter (a ||| 2 ^ i).testBit).length≤(l.filter a.testBit).length+(if i ∈ l then 1 else 0):=by
  intro l
  induction l with
  | nil=>intro _; simp
  | cons b l ih =>
   intro hn;rw[List.nodup_cons] at hn;have ih:=ih hn.2
   by_cases hb:i=b
   ·subst hb;rw[if_neg hn.1] at ih;rw[if_pos (by simp)]
    rw[List.filter_cons_of_pos (by rw[Nat.testBit_or,eX]; simp)]
    by_cases h1:a.testBit i=true
    ·rw[List.filter_cons_of_pos h1]; simp only[List.length_cons]; omega
    ·rw[List.filter_cons_of_neg h1]; simp only[List.length_cons]; omega
   ·have h2:(a ||| 2 ^ i).testBit b=a.testBit b:=by rw[Nat.testBit_or,eX,decide_eq_false (fun e=>hb e.symm),Bool.or_false]
    have h3:(if i ∈ b::l then 1 else 0)=(if i ∈ l then 1 else 0):=by
     by_cases h4:i ∈ l
     ·rw[if_pos h4,if_pos (by simp[h4])]
     ·rw[if_neg h4,if_neg (by simp[hb,h4])]
    rw[h3]
    by_cases h1:a.testBit b=true
    ·rw[List.filter_cons_of_pos h1,List.filter_cons_of_pos (by rw[h2]; exact h1)]; simp only[List.length_cons]; omega
    ·rw[List.filter_cons_of_neg h1,List.filter_cons_of_neg (by rw[h2]; exact h1)]; exact ih
 have:=key (List.range 64) List.nodup_range;rw[if_pos (List.mem_range.2 hi)] at this;exact this
def cb:Nat→Nat→Nat
 | _,0=>1
 | 0,_+1=>0
 | e+1,d+1=>cb e d+cb e (d+1)
theorem mP (e:Nat):cb e 0=1:=by cases e<;>rfl
theorem wA (e d:Nat):cb (e+1) (d+1)=cb e d+cb e (d+1):=rfl
theorem JH {e e':Nat} (h:e≤e') (d:Nat):cb e d≤cb e' d:=by
 induction h with
 | refl=>exact Nat.le_refl _
 | step _ ih =>
  cases d with
  | zero=>rw[mP,mP]; exact Nat.le_refl _
  | succ d=>rw[wA]; omega
def tb:Nat→Nat × Nat × Nat × Nat × Nat × Nat × Nat × Nat
 | 0=>(0,0,0,0,0,0,0,0)
 | e+1=>let (a,b,c,d,f,g,h,i):=tb e; (1+a,a+b,b+c,c+d,d+f,f+g,g+h,h+i)
theorem Ke:∀e,tb e=(cb e 1,cb e 2,cb e 3,cb e 4,cb e 5,cb e 6,cb e 7,cb e 8)
 | 0=>rfl
 | e+1=>by
  unfold tb;rw[Ke e];simp only[wA,mP]
def Ny:Bool:=match tb 36 with
 | (a,b,c,d,f,g,h,i)=>Nat.ble a 1073741824 && Nat.ble b 1073741824 && Nat.ble c 1073741824 && Nat.ble d 1073741824 && Nat.ble f 1073741824 && Nat.ble g 1073741824 && Nat.ble h 1073741824 && Nat.ble i 1073741824
theorem Pw:Ny=true:=by decide +kernel
theorem wZ {e d:Nat} (he:e≤36) (hd:d≤8):cb e d≤1073741824:=by
 refine Nat.le_trans (JH he d) ?_;have h:=Pw;unfold Ny at h;rw[Ke] at h;simp only[Bool.and_eq_true,Nat.ble_eq] at h;have:d=0∨d=1∨d=2∨d=3∨d=4∨d=5∨d=6∨d=7∨d=8:=by omega
 rcases this with rfl|rfl|rfl|rfl|rfl|rfl|rfl|rfl|rfl
 ·rw[mP]; decide
 all_goals omega
def ib (x:Nat) (e:Int × Int):Bool:=x.testBit e.1.toNat && x.testBit e.2.toNat
def inc (es:List (Int × Int)) (x i:Nat):Nat:=((es.drop i).filter (ib x)).length
theorem Ev {es:List (Int × Int)} {x i:Nat} (hi:i<es.length):inc es x i=inc es x (i+1)+(if eo es x (i:Int)=true then 1 else 0):=by
 have e1:eo es x (i:Int)=ib x es[i]:=by
  simp only[eo,ib,eg,Int.toNat_natCast,List.getElem?_eq_getElem hi];rw[decide_eq_true ⟨Int.natCast_nonneg i,by omega⟩,Bool.true_and]
 unfold inc;rw[List.drop_eq_getElem_cons hi,e1]
 by_cases h:ib x es[i]=true
 ·rw[List.filter_cons_of_pos h,if_pos h,List.length_cons]
 ·rw[List.filter_cons_of_neg h,if_neg h]; rfl
theorem inc_le {es:List (Int × Int)} {x:Nat}:∀{i j:Nat},i≤j→inc es x j≤inc es x i:=by
 intro i j h;unfold inc;obtain⟨k,rfl⟩:∃k,j=i+k:=⟨j-i,by omega⟩
 rw[←List.drop_drop];exact(List.Sublist.filter _ (List.drop_sublist _ _)).length_le
theorem tQ {α:Type} [DecidableEq α]:∀{l m:List α},l.Nodup→(∀a ∈ l,a ∈ m)→l.length≤m.length
 | [],_,_,_=>Nat.zero_le _
 | a::l,m,hn,h=>by
  rw[List.nodup_cons] at hn;have ha:=h a (by simp)
  have:=tQ (l:=l) (m:=m.erase a) hn.2 fun b hb=>(List.mem_erase_of_ne (fun e=>hn.1 (by rw[←e]; exact hb))).2 (h b (by simp[hb]))
  rw[List.length_erase_of_mem ha] at this;have:0<m.length:=List.length_pos_of_mem ha;rw[List.length_cons]; omega
def prs:List Nat→List (Int × Int)
 | []=>[]
 | v::V=>(V.map fun w=>(((v:Nat):Int),((w:Nat):Int)))++prs V
theorem Cg:∀{V:List Nat},V.Pairwise (· < ·)→∀{a b:Nat},a ∈ V→b ∈ V→a<b→((a:Int),(b:Int)) ∈ prs V
 | [],_,a,b,ha,_,_=>by cases ha
 | v::V,h,a,b,ha,hb,hab=>by
  rw[List.pairwise_cons] at h;unfold prs;rcases List.mem_cons.1 ha with e1|ha'
  ·rcases List.mem_cons.1 hb with e2|hb'
   ·omega
   ·rw[e1]; exact List.mem_append_left _ (List.mem_map.2 ⟨b,hb',rfl⟩)
  ·rcases List.mem_cons.1 hb with e2|hb'
   ·have:=h.1 a ha'; omega
   ·exact List.mem_append_right _ (Cg h.2 ha' hb' hab)
theorem BV:∀(V:List Nat),2*(prs V).length+V.length=V.length*V.length
 | []=>rfl
 | v::V=>by
  have:=BV V;unfold prs;rw[List.length_append,List.length_map,List.length_cons];have h2:(V.length+1)*(V.length+1)=V.length*V.length+2*V.length+1:=by rw[Nat.add_mul,Nat.mul_add]; omega
  omega
theorem lh {N:Nat} {es:List (Int × Int)} {x:Nat} (hok:pN (N:Int) es=true) (h:Okay N es) (hr:rk x 64≤9) (i:Nat):inc es x i≤36:=by
 refine Nat.le_trans (inc_le (Nat.zero_le i)) ?_;have hasc:=HO hok;have hnd:(es.filter (ib x)).Nodup:=((List.Pairwise.filter _ hasc).imp fun {a b} hab e=>by
  subst e; unfold lexLt at hab; omega)
 have hle:=tQ (m:=prs (bW x 64)) hnd fun e he=>by
  obtain⟨h1,h2⟩:=List.mem_filter.1 he;obtain⟨a,b,rfl,h3,h4⟩:=h.mem e h1;simp only[ib,Int.toNat_natCast,Bool.and_eq_true] at h2;have:=h.le;exact Cg (CD x 64) (bT.2 ⟨by omega,h2.1⟩) (bT.2 ⟨by omega,h2.2⟩) h3
 have hp:=BV (bW x 64);have hV:(bW x 64).length≤9:=hr;unfold inc;rw[List.drop_zero];generalize (bW x 64).length=v at *;have hv:v=0∨v=1∨v=2∨v=3∨v=4∨v=5∨v=6∨v=7∨v=8∨v=9:=by omega
 rcases hv with rfl|rfl|rfl|rfl|rfl|rfl|rfl|rfl|rfl|rfl<;>omega
def HL (N:Int) (es:List (Int × Int)) (x:Nat):Int:=if pN N es then(if x=0∨2 ^ N.toNat≤x then 2 else 0) else 180
def il (es:List (Int × Int)) (x i j:Nat):List Int:=((List.range' i j).filter fun(k:Nat)=>eo es x (k:Int)).map fun(k:Nat)=>(k:Int)
theorem vr (es:List (Int × Int)) (x i j:Nat):il es x i (j+1)=if eo es x (i:Int) then(i:Int)::il es x (i+1) j else il es x (i+1) j:=by
 unfold il;rw[List.range'_succ,List.filter_cons]
 split<;>rfl
theorem Br (es:List (Int × Int)):∀(L:List Int) (d:Nat) (r:Nat→Nat),(gw es L d r).length≤cb L.length d
 | L,0,r=>by cases L<;>simp[gw,mP]
 | [],d+1,r=>Nat.zero_le _
 | k::L,d+1,r=>by
  have h1:=Br es L (d+1) r;simp only[gw,List.length_append,List.length_cons,wA]
  split
  ·simp only[List.length_nil]; omega
  ·have h2:=Br es L d (bP r (eg es k));rw[List.length_map]; omega
theorem uX (es:List (Int × Int)) (x:Nat):∀j i,i+j=es.length→(il es x i j).length=inc es x i
 | 0,i,h=>by
  unfold il inc;rw[List.drop_eq_nil_of_le (by omega)]; rfl
 | j+1,i,h=>by
  have ih:=uX es x j (i+1) (by omega)
  rw[vr,Ev (by omega)]
  split
  ·rw[List.length_cons,ih]
  ·rw[ih]; rfl
theorem tx (T:List (Nat × Nat)) (e:Nat × Nat):rep (T++[e])=bP (rep T) e:=by
 unfold rep;rw[List.foldl_append]; rfl
end Go.Proofs.YtookeaakpiefjaaDoor
end

section
namespace Go.Proofs.YtookeaakpiefjaaDoor
open Go Go.Ab Go.Ab.W
def vl:List Nat→Nat
 | []=>0
 | d::l=>d+18446744073709551616*vl l
def Wd (l:List Nat):Prop:=∀d ∈ l,d<18446744073709551616
def wp (k:Nat):Nat:=18446744073709551616 ^ k
theorem wP:wp 0=1:=rfl
theorem fE (k:Nat):wp (k+1)=18446744073709551616*wp k:=by unfold wp; rw[Nat.pow_succ,Nat.mul_comm]
theorem Lk (a b:Nat):wp (a+b)=wp a*wp b:=Nat.pow_add _ _ _
theorem Hr (k:Nat):0<wp k:=Nat.pow_pos (by decide)
theorem kL:vl []=0:=rfl
theorem fC (d:Nat) (l:List Nat):vl (d::l)=d+18446744073709551616*vl l:=rfl
theorem AY (a b:List Nat):vl (a++b)=vl a+wp a.length*vl b:=by
 induction a with
 | nil=>simp[vl,wp]
 | cons d a ih=>rw[List.cons_append,fC,fC,ih,List.length_cons,fE,Nat.mul_add,Nat.mul_assoc,Nat.add_assoc]
theorem uA {l:List Nat} (h:Wd l):vl l<wp l.length:=by
 induction l with
 | nil=>exact Nat.one_pos
 | cons d l ih =>
  have h1:=h d List.mem_cons_self;have h2:=ih fun e he=>h e (List.mem_cons_of_mem _ he);rw[fC,List.length_cons,fE];omega
theorem EE (k:Nat):vl (List.replicate k 0)=0:=by
 induction k with
 | zero=>rfl
 | succ k ih=>rw[List.replicate_succ,fC,ih]
theorem Wd.nil:Wd []:=fun _ h=>nomatch h
theorem Wd.zeros (k:Nat):Wd (List.replicate k 0):=fun d hd=>by rw[List.eq_of_mem_replicate hd]; decide
theorem Wd.app {a b:List Nat} (ha:Wd a) (hb:Wd b):Wd (a++b):=fun d hd=>(List.mem_append.1 hd).elim (ha d) (hb d)
theorem Wd.one {d:Nat} (h:d<18446744073709551616):Wd [d]:=fun e he=>by rw[List.mem_singleton.1 he]; exact h
theorem Wd.at {l:List Nat} (h:Wd l) {i d:Nat} (hi:l[i]? = some d):d<18446744073709551616:=h d (List.mem_of_getElem? hi)
theorem Wd.set {l:List Nat} (h:Wd l) {i d:Nat} (hd:d<18446744073709551616):Wd (l.set i d):=fun e he=>by
 rcases List.mem_or_eq_of_mem_set he with h1|rfl
 ·exact h e h1
 ·exact hd
theorem Wd.take {l:List Nat} (h:Wd l) (k:Nat):Wd (l.take k):=fun d hd=>h d (List.mem_of_mem_take hd)
theorem Wd.drop {l:List Nat} (h:Wd l) (k:Nat):Wd (l.drop k):=fun d hd=>h d (List.mem_of_mem_drop hd)
theorem eS (l:List Nat) (i:Nat) (hi:i≤l.length):vl l=vl (l.take i)+wp i*vl (l.drop i):=by
 have:=AY (l.take i) (l.drop i);rwa[List.take_append_drop,List.length_take,Nat.min_eq_left hi] at this
theorem lV {l:List Nat} {i d:Nat} (hi:l[i]? = some d):vl (l.drop i)=d+18446744073709551616*vl (l.drop (i+1)):=by
 obtain⟨h1,h2⟩:=List.getElem?_eq_some_iff.1 hi;rw[List.drop_eq_getElem_cons h1,fC,h2]
theorem F3 {l:List Nat} {i d:Nat} (e:Nat) (hi:l[i]? = some d):vl (l.set i e)+wp i*d=vl l+wp i*e:=by
 obtain⟨h1,h2⟩:=List.getElem?_eq_some_iff.1 hi;have a:=eS l i (Nat.le_of_lt h1);have b:=eS (l.set i e) i (by rw[List.length_set]; exact Nat.le_of_lt h1)
 have c:(l.set i e)[i]? = some e:=by rw[List.getElem?_set_self h1]
 rw[lV hi] at a;rw[lV c,List.take_set_of_le (Nat.le_refl i),List.drop_set_of_lt (show i<i+1 from Nat.lt_succ_self i)] at b
 rw[a,b,Nat.mul_add,Nat.mul_add];omega
structure Lg (z:Int) (s:Bool) (l:List Nat):Prop where
 wd:Wd l
 last:∀d,l.getLast? = some d→d≠0
 val:z=if s then -(vl l:Int) else(vl l:Int)
 sign:s=true→l≠[]
theorem vd {l:List Nat} (h:∀d,l.getLast? = some d→d≠0) (hl:l≠[]):wp (l.length-1)≤vl l:=by
 obtain⟨a,d,rfl⟩:∃a d,l=a++[d]:=⟨l.dropLast,l.getLast hl,(List.dropLast_concat_getLast hl).symm⟩;have h1:=h d (by simp)
 rw[AY,List.length_append,List.length_singleton,Nat.add_sub_cancel,fC,kL];have:wp a.length*1≤wp a.length*(d+18446744073709551616*0):=Nat.mul_le_mul_left _ (by omega)
 omega
theorem jo {l:List Nat} (h:∀d,l.getLast? = some d→d≠0):vl l=0↔l = []:=by
 refine⟨fun h1=>?_,fun h1=>by rw[h1]; rfl⟩
 by_cases hl:l = []
 ·exact hl
 ·have:=vd h hl;have:=Hr (l.length-1);omega
theorem uc {d:Nat} {l:List Nat} (h:∀e,(d::l).getLast? = some e→e≠0):∀e,l.getLast? = some e→e≠0:=by
 intro e he;cases l with
 | nil=>cases he
 | cons a l=>exact h e (by rw[List.getLast?_cons_cons]; exact he)
theorem Gc:∀{l k:List Nat},Wd l→Wd k→(∀d,l.getLast? = some d→d≠0)→(∀d,k.getLast? = some d→d≠0)→vl l=vl k→l=k:=by
 intro l
 induction l with
 | nil=>intro k _ _ _ hk h; exact((jo hk).1 h.symm).symm
 | cons d l ih =>
  intro k wl wk hl hk h;cases k with
  | nil=>exact absurd ((jo hl).1 h) (by simp)
  | cons e k =>
   have h1:=wl d List.mem_cons_self;have h2:=wk e List.mem_cons_self;rw[fC,fC] at h;have h3:d=e:=by omega
   have h4:vl l=vl k:=by omega
   rw[h3,ih (fun x hx=>wl x (List.mem_cons_of_mem _ hx)) (fun x hx=>wk x (List.mem_cons_of_mem _ hx)) (uc hl) (uc hk) h4]
theorem Lg.inj {z:Int} {s t:Bool} {l k:List Nat} (h:Lg z s l) (h':Lg z t k):s=t∧l=k:=by
 have a:=h.val;have b:=h'.val;have hz:=jo h.last;have hz':=jo h'.last;have e:vl l=vl k:=by
  cases s<;>cases t<;>simp only[Bool.false_eq_true,if_false,if_true] at a b<;>omega
 have e':=Gc h.wd h'.wd h.last h'.last e;refine⟨?_,e'⟩;subst e';cases s<;>cases t<;>simp only[Bool.false_eq_true,if_false,if_true] at a b
 ·rfl
 ·exact absurd (hz.1 (by omega)) (h'.sign rfl)
 ·exact absurd (hz.1 (by omega)) (h.sign rfl)
 ·rfl
def yJ (s:Bool) (x:Nat):Int:=if s then -(x:Int) else(x:Int)
theorem Lg.zero:Lg 0 false []:={ wd:=Wd.nil,last:=fun _ h=>(nomatch h),val:=rfl,sign:=fun h=>(nomatch h)}
theorem Lg.small {x:Nat} (h0:x≠0) (h:x<18446744073709551616) (s:Bool):Lg (yJ s x) s [x]:=⟨Wd.one h,fun d hd=>by simp at hd; omega,by simp[yJ,vl],fun _=>by simp⟩
theorem Lg.Es {z:Int} {s:Bool} {l:List Nat} (h:Lg z s l):s=decide (z<0):=by
 have a:=h.val;have hz:=jo h.last;cases s with
 | false=>simp only[Bool.false_eq_true,if_false] at a; rw[decide_eq_false (by omega)]
 | true =>
  simp only[if_true] at a;have:vl l≠0:=fun e=>h.sign rfl (hz.1 e);rw[decide_eq_true (by omega)]
theorem Lg.abs {z:Int} {s:Bool} {l:List Nat} (h:Lg z s l):vl l=z.natAbs:=by
 have a:=h.val;cases s<;>simp only[Bool.false_eq_true,if_false,if_true] at a<;>omega
theorem Lg.PM {z:Int} {s:Bool} {l:List Nat} (h:Lg z s l):l = []↔z=0:=by
 rw[←jo h.last,h.abs]; omega
theorem Lg.O5 {z:Int} {s:Bool} {l:List Nat} (h:Lg z s l) (hz:z≠0) (hb:z.natAbs<18446744073709551616):l = [z.natAbs]:=by
 have hl:l≠[]:=fun e=>hz (h.PM.1 e);exact Gc h.wd (Wd.one hb) h.last (fun d hd=>by simp at hd; omega) (by rw[h.abs]; simp[vl])
theorem kD {n:Nat} (s:Bool) {l:List Nat} (hl:Wd l) (hb:l.length<4611686018427387904) (hn:l.length<n) :
  ∃t k,zd n s l=some (t,k)∧Lg (yJ s (vl l)) t k:=by
 have hL:∀i m,i≤l.length→i<m→vl (l.drop i)=0→∃j,bG (hY n l) m ((i:Nat):Int)=some ((j:Nat):Int)∧j≤l.length∧vl (l.drop j)=0∧∀d,(l.take j).getLast? = some d→d≠0:=by
  intro i
  induction i with
  | zero =>
   intro m _ hm h0;obtain⟨m,rfl⟩:∃m',m=m'+1:=⟨m-1,by omega⟩
   refine⟨0,aM ?_,Nat.zero_le _,h0,fun d hd=>by simp at hd⟩
   unfold hY;rw[bf (by decide)]; rfl
  | succ i ih =>
   intro m hi hm h0;obtain⟨m,rfl⟩:∃m',m=m'+1:=⟨m-1,by omega⟩
   have hi':i<l.length:=hi;have e0:IntKind.wrap .i64 (((i+1:Nat):Int)-1)=((i:Nat):Int):=by rw[aR (by omega) (by omega)]; omega
   have e1:l[((i:Nat):Int).toNat]? = some l[i]:=by simp[hi']
   have e2:l[i]? = some l[i]:=by simp[hi']
   by_cases hz:l[i]=0
   ·have:hY n l ((i+1:Nat):Int)=some (.inl ((i:Nat):Int)):=by
     unfold hY;rw[bB (by omega),e0,aw hi',aD,e1,ah,ah,bB hz]
    rw[aU this];exact ih m (Nat.le_of_lt hi') (by omega) (by rw[lV e2,hz,h0])
   ·refine⟨i+1,aM ?_,hi,h0,fun d hd=>?_⟩
    ·unfold hY;rw[bB (by omega),e0,aw hi',aD,e1,ah,ah,bf hz]
    ·rw[List.getLast?_eq_getElem?,List.length_take,Nat.min_eq_left hi,Nat.add_sub_cancel,List.getElem?_take_of_lt (Nat.lt_succ_self i),e2] at hd;cases hd;exact hz
 obtain⟨j,h1,h2,h3,h4⟩:=hL l.length n (Nat.le_refl _) hn (by rw[List.drop_length]; rfl)
 have hv:vl l=vl (l.take j):=by rw[eS l j h2,h3]; omega
 have hk:okB 0 ((j:Nat):Int) l.length=true:=decide_eq_true ⟨by omega,by omega,by omega⟩
 have ht:(l.drop (0:Int).toNat).take (((j:Nat):Int).toNat-(0:Int).toNat)=l.take j:=by simp
 have hz:=jo h4;unfold zd;rw[h1,ah];cases s with
 | false =>
  refine⟨false,l.take j,?_,hl.take j,h4,?_,fun h=>nomatch h⟩
  ·rw[bK,hk,aD,ht]
  ·rw[hv]; rfl
 | true =>
  refine⟨decide (0<((j:Nat):Int)),l.take j,?_,hl.take j,h4,?_,fun h e=>?_⟩
  ·rw[bI,hk,aD,ht]
  ·rw[hv]
   by_cases hj:0<((j:Nat):Int)
   ·rw[decide_eq_true hj]; rfl
   ·have:j=0:=by omega
    subst this
    rfl
  ·have h5:=of_decide_eq_true h;have:=congrArg List.length e;rw[List.length_take,Nat.min_eq_left h2] at this;simp at this;omega
theorem tE (l:List Nat) (i:Nat):∃y,vl (l.drop i)=y+18446744073709551616*vl (l.drop (i+1))∧(Wd l→y<18446744073709551616) ∧
  (br (decide (((i:Nat):Int)<(l.length:Int))) (gd (bE ((i:Nat):Int) l.length) (ob (l[((i:Nat):Int).toNat]?) fun x=>some x)) (some 0))=some y:=by
 by_cases h:i<l.length
 ·have e2:l[i]? = some l[i]:=by simp[h]
  exact⟨l[i],lV e2,fun w=>w.at e2,by rw[bB (by omega),aw h,aD,Int.toNat_natCast,e2]; rfl⟩
 ·refine⟨0,?_,fun _=>by decide,by rw[bf (by omega)]⟩
  rw[List.drop_eq_nil_of_le (by omega),List.drop_eq_nil_of_le (by omega)]; rfl
theorem yR {a:List Nat} {k e d:Nat}:(a++e::List.replicate k 0).set a.length d=(a++[d])++List.replicate k 0:=by
 rw[List.set_append_right _ _ (Nat.le_refl _),Nat.sub_self,List.set_cons_zero,List.append_assoc]; rfl
theorem qc (a:List Nat) (d:Nat):vl (a++[d])=vl a+wp a.length*d:=by rw[AY,fC,kL]; rfl
theorem My {n:Nat} {l k:List Nat} (hl:Wd l) (hk:Wd k) (hb:l.length<1073741824) (hb':k.length<1073741824) (hn:l.length<n) (hn':k.length<n) :
  ∃r,NX n l k=some r∧Wd r∧vl r=vl l+vl k∧r.length≤l.length+k.length+1:=by
 have key:∀a b:List Nat,Wd a→Wd b→a.length<1073741824→b.length≤a.length→a.length<n→∃r,(gd (decide (0≤IntKind.wrap .i64 ((a.length:Int)+1))) (gd (nK ((IntKind.wrap .i64 ((a.length:Int)+1)).toNat)) (
   ob (bG (sr n a b) n ((List.replicate (IntKind.wrap .i64 ((a.length:Int)+1)).toNat (0:Nat)),(IntKind.wrap .i64 ((a.length:Int)+1)).toNat,0,0)) fun(l1,n0,v0) =>
   gd (bE (a.length:Int) n0) (ob (l1[(a.length:Int).toNat]?) fun x3=>some (l1.set ((a.length:Int).toNat) v0)))))=some r∧Wd r∧vl r=vl a+vl b∧r.length=a.length+1:=by
  intro a b ha h5 hba hab hna;have w0:IntKind.wrap .i64 ((a.length:Int)+1)=((a.length+1:Nat):Int):=by rw[aR (by omega) (by omega)]; rfl
  have hL:∀j i m p c,i+j=a.length→j<m→p.length=i→Wd p→c≤1→vl p+wp i*(c+vl (a.drop i)+vl (b.drop i))=vl a+vl b →
    ∃q c',bG (sr n a b) m (p++List.replicate (j+1) 0,a.length+1,c,((i:Nat):Int))=some (q++[0],a.length+1,c')∧q.length=a.length∧Wd q∧c'≤1∧vl q+wp a.length*c'=vl a+vl b:=by
   intro j
   induction j with
   | zero =>
    intro i m p c hij hm hp wp' hc hv;obtain⟨m,rfl⟩:∃m',m=m'+1:=⟨m-1,by omega⟩
    have hi:i=a.length:=by omega
    refine⟨p,c,aM ?_,by omega,wp',hc,?_⟩
    ·unfold sr
     dsimp only
     rw[bf (by omega)]; rfl
    ·subst hi;rw[List.drop_length,List.drop_eq_nil_of_le (by omega),kL] at hv
     simpa using hv
   | succ j ih =>
    intro i m p c hij hm hp wp' hc hv;obtain⟨m,rfl⟩:∃m',m=m'+1:=⟨m-1,by omega⟩
    have hi:i<a.length:=by omega
    obtain⟨x,e0⟩:∃x,a[i]? = some x:=⟨a[i],by simp[hi]⟩
    have hx:=ha.at e0;obtain⟨y,y1,y2,y3⟩:=tE b i;have y2:=y2 h5;have e1:(p++List.replicate (j+1+1) 0)[((i:Nat):Int).toNat]? = some 0:=by
     rw[Int.toNat_natCast,List.getElem?_append_right (by omega),List.getElem?_replicate]; simp; omega
    have st:sr n a b (p++List.replicate (j+1+1) 0,a.length+1,c,((i:Nat):Int))=some (.inl ((p++[(x+y+c)%18446744073709551616])++List.replicate (j+1) 0,a.length+1,(x+y+c)/18446744073709551616,((i+1:Nat):Int))):=by
     unfold sr
     dsimp only
     rw[bB (by omega),aw hi,aD,Int.toNat_natCast,e0,ah]
     rw[Int.toNat_natCast] at y3 e1;rw[y3,ah];unfold CN;rw[cM hc,ah]
     dsimp only
     rw[aw (show i<a.length+1 by omega),aD,e1,ah,aH (by omega),←hp,List.replicate_succ,yR]
    rw[aU st];refine ih (i+1) m _ _ (by omega) (by omega) (by rw[List.length_append,hp]; rfl) (wp'.app (Wd.one (Nat.mod_lt _ (by decide)))) (by omega) ?_
    rw[←hv,qc,hp,fE,lV e0,y1];have h2:∀s:Nat,s=s%18446744073709551616+18446744073709551616*(s/18446744073709551616):=fun s=>(Nat.mod_add_div s _).symm;have h1:=h2 (x+y+c);generalize (x+y+c)%18446744073709551616=lo at h1 ⊢;generalize (x+y+c)/18446744073709551616=hi' at h1 ⊢;have h3:c+(x+18446744073709551616*vl (a.drop (i+1)))+(y+18446744073709551616*vl (b.drop (i+1)))=lo+18446744073709551616*(hi'+vl (a.drop (i+1))+vl (b.drop (i+1))):=by omega
    rw[h3,Nat.mul_add (wp i),Nat.mul_left_comm (wp i),←Nat.mul_assoc,Nat.add_assoc,Nat.add_assoc]
  obtain⟨q,c',h2,h1,h3,h4,h6⟩:=hL a.length 0 n [] 0 (by omega) hna rfl Wd.nil (by omega) (by simp[vl,wp])
  refine⟨q++[c'],?_,h3.app (Wd.one (by omega)),by rw[qc,h1,h6],by rw[List.length_append,h1]; rfl⟩
  rw[w0,cM (by omega)]
  have hlim:nK ((a.length+1:Nat):Int).toNat=true:=ga (by omega)
  rw[hlim,aD,Int.toNat_natCast];rw[show(List.replicate (a.length+1) (0:Nat),a.length+1,(0:Nat),(0:Int))=(([]:List Nat)++List.replicate (a.length+1) 0,a.length+1,0,((0:Nat):Int)) from rfl,h2,ah]
  dsimp only
  rw[aw (Nat.lt_succ_self _),aD,Int.toNat_natCast,←h1,List.getElem?_append_right (Nat.le_refl _),Nat.sub_self];rw[show([0]:List Nat)[0]? = some 0 from rfl,ah,List.set_append_right _ _ (Nat.le_refl _),Nat.sub_self]
  rfl
 unfold NX
 by_cases h:l.length<k.length
 ·rw[bB (by omega),ah]
  obtain⟨r,h2,h1,h3,h4⟩:=key k l hk hl hb' (Nat.le_of_lt h) hn';exact⟨r,h2,h1,by omega,by omega⟩
 ·rw[bf (by omega),ah]
  obtain⟨r,h2,h1,h3,h4⟩:=key l k hl hk hb (by omega) hn
  exact⟨r,h2,h1,h3,by omega⟩
theorem Lv {n:Nat} {l k:List Nat} (hl:Wd l) (hk:Wd k) (ll:∀d,l.getLast? = some d→d≠0) (lk:∀d,k.getLast? = some d→d≠0) (hb:l.length<1073741824) (hb':k.length<1073741824) (hn:l.length<n) :
  ∃r:Int,Nd n l k=some r∧(r<0↔vl l<vl k)∧(0<r↔vl k<vl l):=by
 have big:∀a b:List Nat,Wd a→(∀d,b.getLast? = some d→d≠0)→a.length<b.length→vl a<vl b:=by
  intro a b ha hb h;have h1:=uA ha;have h2:=vd hb (by intro e; rw[e] at h; exact Nat.not_lt_zero _ h)
  have h3:wp a.length≤wp (b.length-1):=Nat.pow_le_pow_right (by decide) (by omega)
  omega
 unfold Nd
 by_cases h:l.length=k.length
 ·rw[decide_eq_true (show(l.length:Int)=(k.length:Int) by omega),Bool.not_true,bK]
  have hL:∀i m,i≤l.length→i<m→vl (l.drop i)=vl (k.drop i)→∃r,bG (pE n l k) m ((i:Int)-1)=some r ∧
    ((r = .inl (-1)∧vl l<vl k)∨(r = .inl 1∧vl k<vl l)∨(r = .inr ()∧vl l=vl k)):=by
   intro i
   induction i with
   | zero =>
    intro m _ hm h0;obtain⟨m,rfl⟩:∃m',m=m'+1:=⟨m-1,by omega⟩
    refine⟨.inr (),aM ?_,.inr (.inr ⟨rfl,by simpa using h0⟩)⟩
    unfold pE;rw[bf (by decide)]
   | succ i ih =>
    intro m hi hm h0;obtain⟨m,rfl⟩:∃m',m=m'+1:=⟨m-1,by omega⟩
    obtain⟨x,e2⟩:∃x,l[i]? = some x:=⟨l[i],by simp⟩
    obtain⟨y,e3⟩:∃y,k[i]? = some y:=⟨k[i],by simp⟩
    have a1:=lV e2;have a2:=lV e3;have a3:=eS l i (by omega)
    have a4:=eS k i (by omega)
    have t1:=uA (hl.take i);have t2:=uA (hk.take i);rw[List.length_take,Nat.min_eq_left (by omega)] at t1 t2
    have e0:((i+1:Nat):Int)-1=((i:Nat):Int):=by omega
    rw[e0];rcases Nat.lt_trichotomy x y with hxy|hxy|hxy
    ·refine⟨.inl (-1),aM ?_,.inl ⟨rfl,?_⟩⟩
     ·unfold pE;rw[bB (by omega),aw (by omega),aD,Int.toNat_natCast,e2,ah,aw (by omega),aD,e3,ah,bB hxy]
     ·have:wp i*(vl (l.drop i)+1)≤wp i*vl (k.drop i):=Nat.mul_le_mul_left _ (by omega)
      rw[Nat.mul_add] at this;omega
    ·have st:pE n l k ((i:Nat):Int)=some (.inl (((i:Nat):Int)-1)):=by
      unfold pE;rw[bB (by omega),aw (by omega),aD,Int.toNat_natCast,e2,ah,aw (by omega),aD,e3,ah,bf (by omega),aD,aD,bf (by omega),aR (by omega) (by omega)]
     rw[aU st];exact ih m (by omega) (by omega) (by omega)
    ·refine⟨.inl 1,aM ?_,.inr (.inl ⟨rfl,?_⟩)⟩
     ·unfold pE;rw[bB (by omega),aw (by omega),aD,Int.toNat_natCast,e2,ah,aw (by omega),aD,e3,ah,bf (by omega),aD,aD,bB hxy]
     ·have:wp i*(vl (k.drop i)+1)≤wp i*vl (l.drop i):=Nat.mul_le_mul_left _ (by omega)
      rw[Nat.mul_add] at this;omega
  obtain⟨r,h1,h2⟩:=hL l.length n (Nat.le_refl _) hn (by rw[List.drop_length,h,List.drop_length])
  rw[aR (by omega) (by omega),h1,ah]
  rcases h2 with⟨rfl,h2⟩|⟨rfl,h2⟩|⟨rfl,h2⟩
  ·exact⟨-1,rfl,by omega,by omega⟩
  ·exact⟨1,rfl,by omega,by omega⟩
  ·exact⟨0,rfl,by omega,by omega⟩
 ·rw[decide_eq_false (show ¬(l.length:Int)=(k.length:Int) by omega),Bool.not_false,bI]
  refine⟨_,rfl,?_,?_⟩<;>rw[aR (by omega) (by omega)]
  ·refine⟨fun h1=>big l k hl lk (by omega),fun h1=>?_⟩
   by_cases h2:l.length<k.length
   ·omega
   ·have:=big k l hk ll (by omega); omega
  ·refine⟨fun h1=>big k l hk ll (by omega),fun h1=>?_⟩
   by_cases h2:k.length<l.length
   ·omega
   ·have:=big l k hl lk (by omega); omega
theorem Hn {n:Nat} {l k:List Nat} (hl:Wd l) (hk:Wd k) (hle:vl k≤vl l) (hlk:k.length≤l.length) (hb:l.length<1073741824) (hn:l.length<n) :
  ∃r,M8 n l k=some r∧Wd r∧vl r=vl l-vl k∧r.length=l.length:=by
 have hL:∀j i m p c,i+j=l.length→j<m→p.length=i→Wd p→c≤1→vl p+wp i*vl (l.drop i)+vl k=vl l+wp i*(c+vl (k.drop i)) →
   ∃q c',bG (tN n l k) m (p++List.replicate j 0,c,((i:Nat):Int))=some q∧q.length=l.length∧Wd q∧c'≤1∧vl q+vl k=vl l+wp l.length*c':=by
  intro j
  induction j with
  | zero =>
   intro i m p c hij hm hp wp' hc hv;obtain⟨m,rfl⟩:∃m',m=m'+1:=⟨m-1,by omega⟩
   have hi:i=l.length:=by omega
   refine⟨p,c,aM ?_,by omega,wp',hc,?_⟩
   ·unfold tN
    dsimp only
    rw[bf (by omega),List.replicate_zero,List.append_nil]
   ·subst hi;rw[List.drop_length,List.drop_eq_nil_of_le (by omega),kL] at hv
    simpa using hv
  | succ j ih =>
   intro i m p c hij hm hp wp' hc hv;obtain⟨m,rfl⟩:∃m',m=m'+1:=⟨m-1,by omega⟩
   have hi:i<l.length:=by omega
   obtain⟨x,e2⟩:∃x,l[i]? = some x:=⟨l[i],by simp[hi]⟩
   have hx:=hl.at e2;obtain⟨y,y1,y2,y3⟩:=tE k i;have y2:=y2 hk;have e3:(p++List.replicate (j+1) 0)[((i:Nat):Int).toNat]? = some 0:=by
    rw[Int.toNat_natCast,List.getElem?_append_right (by omega),List.getElem?_replicate]; simp; omega
   have st:tN n l k (p++List.replicate (j+1) 0,c,((i:Nat):Int))=some (.inl ((p++[(x+18446744073709551616-y-c)%18446744073709551616])++List.replicate j 0,if x<y+c then 1 else 0,((i+1:Nat):Int))):=by
    unfold tN
    dsimp only
    rw[bB (by omega),aw hi,aD,Int.toNat_natCast,e2,ah]
    rw[Int.toNat_natCast] at y3 e3;rw[y3,ah];unfold IL;rw[cM hc,ah]
    dsimp only
    rw[Int.toNat_natCast,aw hi,aD,e3,ah,aH (by omega),←hp,List.replicate_succ,yR]
   rw[aU st];refine ih (i+1) m _ _ (by omega) (by omega) (by rw[List.length_append,hp]; rfl) (wp'.app (Wd.one (Nat.mod_lt _ (by decide)))) (by split<;>omega) ?_
   rw[lV e2,y1] at hv;rw[qc,hp,fE];have h2:(x+18446744073709551616-y-c)%18446744073709551616+y+c=x+18446744073709551616*(if x<y+c then 1 else 0):=by split<;>omega
   generalize (x+18446744073709551616-y-c)%18446744073709551616=lo at h2 ⊢;generalize (if x<y+c then 1 else 0)=hi' at h2 ⊢
   generalize vl (l.drop (i+1))=A at hv ⊢;generalize vl (k.drop (i+1))=D at hv ⊢;have h3:wp i*(lo+y+c)=wp i*(x+18446744073709551616*hi'):=by rw[h2]
   simp only[Nat.mul_add,Nat.mul_left_comm (wp i) 18446744073709551616,Nat.mul_assoc] at hv h3 ⊢;omega
 obtain⟨q,c',h1,h2,h3,h4,h5⟩:=hL l.length 0 n [] 0 (by omega) hn rfl Wd.nil (by omega) (by simp[vl,wp])
 refine⟨q,?_,h3,?_,h2⟩
 ·unfold M8;rw[cM (by omega),Int.toNat_natCast,ga (by omega),aD]
  rw[show(List.replicate l.length (0:Nat),(0:Nat),(0:Int))=(([]:List Nat)++List.replicate l.length 0,0,((0:Nat):Int)) from rfl,h1,ah]
 ·have h6:=uA h3;rw[h2] at h6;have:c'=0:=by
   rcases Nat.le_one_iff_eq_zero_or_eq_one.1 h4 with e|e
   ·exact e
   ·rw[e] at h5; omega
  rw[this] at h5;omega
theorem yb (s:Bool):yJ s 0=0:=by cases s<;>rfl
theorem GW {n:Nat} {a b:Int} {s t:Bool} {l k:List Nat} (h:Lg a s l) (h':Lg b t k) (hb:l.length<1000000) (hb':k.length<1000000) (hn:l.length+k.length+1<n) :
  ∃u m,DW n s l t k=some (u,m)∧Lg (a+b) u m:=by
 have av:=h.val;have bv:=h'.val;unfold DW
 by_cases e:s=t
 ·subst e;rw[beq_self_eq_true,bI];obtain⟨r,r1,r2,r3,r4⟩:=My (n:=n) h.wd h'.wd (by omega) (by omega) (by omega) (by omega)
  obtain⟨u,m,m1,m2⟩:=kD (n:=n) s r2 (by omega) (by omega)
  refine⟨u,m,by rw[r1,ah,m1]; rfl,?_⟩
  have:a+b=yJ s (vl r):=by rw[av,bv,r3]; unfold yJ; cases s<;>simp<;>omega
  rw[this]; exact m2
 ·have:(s == t)=false:=by cases s<;>cases t<;>simp_all
  rw[this,bK];obtain⟨r,r1,r2,r3⟩:=Lv (n:=n) h.wd h'.wd h.last h'.last (by omega) (by omega) (by omega)
  have ht:t = !s:=by cases s<;>cases t<;>simp_all
  have longer:∀p q:List Nat,Wd p→Wd q→(∀d,p.getLast? = some d→d≠0)→(∀d,q.getLast? = some d→d≠0)→vl p≤vl q→p.length≤q.length:=by
   intro p q wp1 wq1 lp lq hle;refine Nat.le_of_not_lt fun hlt=>?_;have h1:=uA wq1;have h2:=vd lp (by intro e; rw[e] at hlt; exact Nat.not_lt_zero _ hlt)
   have h3:wp q.length≤wp (p.length-1):=Nat.pow_le_pow_right (by decide) (by omega)
   omega
  rw[r1,ah]
  by_cases hr:r<0
  ·have hv:=r2.1 hr;obtain⟨m,m1,m2,m3,m4⟩:=Hn (n:=n) h'.wd h.wd (Nat.le_of_lt hv) (longer _ _ h.wd h'.wd h.last h'.last (Nat.le_of_lt hv)) (by omega) (by omega)
   obtain⟨u,m',u1,u2⟩:=kD (n:=n) t m2 (by omega) (by omega)
   refine⟨u,m',by rw[bB hr,ah]; dsimp only; rw[m1,ah,u1]; rfl,?_⟩
   have:a+b=yJ t (vl m):=by rw[av,bv,m3,ht]; unfold yJ; cases s<;>simp<;>omega
   rw[this]; exact u2
  ·have hv:vl k≤vl l:=Nat.le_of_not_lt fun h=>hr (r2.2 h);obtain⟨m,m1,m2,m3,m4⟩:=Hn (n:=n) h.wd h'.wd hv (longer _ _ h'.wd h.wd h'.last h.last hv) (by omega) (by omega)
   obtain⟨u,m',u1,u2⟩:=kD (n:=n) s m2 (by omega) (by omega)
   refine⟨u,m',by rw[bf hr,ah]; dsimp only; rw[m1,ah,u1]; rfl,?_⟩
   have:a+b=yJ s (vl m):=by rw[av,bv,m3,ht]; unfold yJ; cases s<;>simp<;>omega
   rw[this]; exact u2
theorem KH {n:Nat} {a:Int} {s:Bool} {l:List Nat} (h:Lg a s l) (hb:l.length<1000000) (hn:l.length<n):∃u m,O4 n s l=some (u,m)∧Lg (-a) u m:=by
 obtain⟨u,m,m1,m2⟩:=kD (n:=n) (!s) h.wd (by omega) hn
 refine⟨u,m,by unfold O4; rw[m1]; rfl,?_⟩
 have : -a=yJ (!s) (vl l):=by rw[h.val]; unfold yJ; cases s<;>simp
 rw[this]; exact m2
theorem Lg.len {a:Int} {s:Bool} {l:List Nat} (h:Lg a s l) {k:Nat} (hk:a.natAbs<wp k):l.length≤k:=by
 refine Nat.le_of_not_lt fun hlt=>?_;have h2:=vd h.last (by intro e; rw[e] at hlt; exact Nat.not_lt_zero _ hlt)
 have h3:wp k≤wp (l.length-1):=Nat.pow_le_pow_right (by decide) (by omega)
 have:=h.abs;omega
theorem Lg.up {a:Int} {s:Bool} {l:List Nat} (h:Lg a s l):a.natAbs<wp l.length:=by
 rw[←h.abs]; exact uA h.wd
theorem Be {n:Nat} {a b:Int} {s t:Bool} {l k:List Nat} (h:Lg a s l) (h':Lg b t k) (hb:l.length<1000000) (hb':k.length<1000000) (hn:l.length+k.length+1<n) :
  ∃u m,LM n s l t k=some (u,m)∧Lg (a-b) u m:=by
 obtain⟨u,m,m1,m2⟩:=KH (n:=n) h' hb' (by omega)
 have hm:m.length≤k.length:=m2.len (by rw[Int.natAbs_neg]; exact h'.up)
 obtain⟨v,q,q1,q2⟩:=GW (n:=n) h m2 hb (by omega) (by omega)
 exact⟨v,q,by unfold LM; rw[m1,ah]; dsimp only; rw[q1]; rfl,q2⟩
theorem zN {n:Nat} {a:Int} {s:Bool} {l:List Nat} (h:Lg a s l):∃r,MY n s l=some r∧(r<0↔a<0)∧(r=0↔a=0):=by
 have h1:=h.Es;have h2:=h.PM;unfold MY;cases s with
 | true =>
  have:=of_decide_eq_true h1.symm;exact⟨-1,rfl,by omega,by omega⟩
 | false =>
  have:=of_decide_eq_false h1.symm;rw[bK]
  by_cases hl:l = []
  ·subst hl;have:=h2.1 rfl;exact⟨0,rfl,by omega,by omega⟩
  ·have:¬a=0:=fun e=>hl (h2.2 e);have:¬(l.length:Int)=0:=fun e=>hl (List.eq_nil_of_length_eq_zero (by omega))
   rw[bf this];exact⟨1,rfl,by omega,by omega⟩
theorem yB {a:Nat} (ha:a<18446744073709551616):uw .u64 (uw .u64 a &&& uw .u64 4294967295)=a%4294967296:=by
 rw[gN ha (by decide)]
 exact Nat.and_two_pow_sub_one_eq_mod a 32
theorem Hg (a:Nat):bu .u64 a 32=a/4294967296:=rfl
theorem pL {a:Nat} (h:a<18446744073709551616):uw .u64 a=a:=Nat.mod_eq_of_lt h
theorem Jy (n:Nat) {x y:Nat} (hx:x<18446744073709551616) (hy:y<18446744073709551616):EX n x y=some (x*y/18446744073709551616,x*y%18446744073709551616):=by
 obtain⟨b1,b2,b3,hhi⟩:=Lib.mul64_hi x y hx hy;have ba:=Lib.half_mul_le (a:=x/4294967296) (b:=y/4294967296) (by omega) (by omega)
 have bb:=Lib.half_mul_le (a:=x/4294967296) (b:=y%4294967296) (by omega) (by omega)
 have bc:=Lib.half_mul_le (a:=x%4294967296) (b:=y/4294967296) (by omega) (by omega)
 unfold EX;simp only[yB hx,yB hy,Hg,ah];rw[pL b1,pL (a:=x/4294967296*(y%4294967296)) (by omega)]
 rw[pL b2,yB b2,pL (a:=x%4294967296*(y/4294967296)) (by omega),pL b3,pL (a:=x/4294967296*(y/4294967296)) (by omega)]
 rw[pL (a:=x/4294967296*(y/4294967296)+_) (by omega),pL (by omega),hhi]
 rfl
theorem Ie {n:Nat} {k:List Nat} (hk:Wd k) {x i N:Nat} (hx:x<18446744073709551616) (hN:i+k.length<N) (hNb:N<4611686018427387904) {b:List Nat} (hb:Wd b) (hbN:b.length=N) :
  ∀r j m cur c,j+r=k.length→r<m→Wd cur→cur.length=N→c<18446744073709551616→(∀p,i+k.length≤p→cur[p]? = b[p]?) →
   vl cur+wp (i+j)*c+wp (i+j)*(x*vl (k.drop j))=vl b+wp i*(x*vl k) →
   ∃q c',bG (oW n k x (i:Int) N) m (cur,c,((j:Nat):Int))=some (q,c')∧Wd q∧q.length=N∧c'<18446744073709551616∧(∀p,i+k.length≤p→q[p]? = b[p]?)∧vl q+wp (i+k.length)*c'=vl b+wp i*(x*vl k):=by
 intro r
 induction r with
 | zero =>
  intro j m cur c hj hm hw hl hc hp hv;obtain⟨m,rfl⟩:∃m',m=m'+1:=⟨m-1,by omega⟩
  have hj':j=k.length:=by omega
  refine⟨cur,c,aM ?_,hw,hl,hc,hp,?_⟩
  ·unfold oW
   dsimp only
   rw[bf (by omega)]
  ·rw[←hv,hj',List.drop_length,kL]; omega
 | succ r ih =>
  intro j m cur c hj hm hw hl hc hp hv;obtain⟨m,rfl⟩:∃m',m=m'+1:=⟨m-1,by omega⟩
  have hi:j<k.length:=by omega
  obtain⟨y,e2⟩:∃y,k[j]? = some y:=⟨k[j],by simp[hi]⟩
  have hy:=hk.at e2;obtain⟨d,e3⟩:∃d,cur[i+j]? = some d:=⟨cur[i+j]'(by omega),by simp⟩
  have hd:=hw.at e3;have hxy:x*y≤18446744073709551615*18446744073709551615:=Nat.mul_le_mul (by omega) (by omega)
  have w1:IntKind.wrap .i64 ((i:Int)+((j:Nat):Int))=((i+j:Nat):Int):=by rw[aR (by omega) (by omega)]; omega
  have st:oW n k x (i:Int) N (cur,c,((j:Nat):Int))=some (.inl (cur.set (i+j) ((x*y+d+c)%18446744073709551616),(x*y+d+c)/18446744073709551616,((j+1:Nat):Int))):=by
   unfold oW
   dsimp only
   rw[bB (by omega),aw hi,aD,Int.toNat_natCast,e2,ah,Jy n hx hy,ah]
   dsimp only
   rw[w1,aw (by omega),aD,Int.toNat_natCast,e3,ah]
   unfold CN;rw[cM (by omega),ah]
   dsimp only
   rw[cM (by omega),ah]
   dsimp only
   rw[aD,aH (by omega),pL (a:=x*y/18446744073709551616+_) (by omega),pL (by omega)]
   congr 3
   ·congr 1; omega
   ·congr 1; omega
  rw[aU st];refine ih (j+1) m _ _ (by omega) (by omega) (hw.set (Nat.mod_lt _ (by decide))) (by rw[List.length_set]; exact hl) (by omega) (fun p hp'=>by rw[List.getElem?_set_ne (by omega)]; exact hp p hp') ?_
  rw[lV e2] at hv;have hs:=F3 ((x*y+d+c)%18446744073709551616) e3;rw[←hv,←Nat.add_assoc i j 1,fE];have h2:(x*y+d+c)%18446744073709551616+18446744073709551616*((x*y+d+c)/18446744073709551616)=x*y+d+c:=Nat.mod_add_div _ _;generalize (x*y+d+c)%18446744073709551616=lo at h2 hs ⊢;generalize (x*y+d+c)/18446744073709551616=hi' at h2 ⊢;generalize vl (k.drop (j+1))=A at hv ⊢;generalize vl (cur.set (i+j) lo)=Z at hs ⊢;have h3:wp (i+j)*(lo+18446744073709551616*hi')=wp (i+j)*(x*y+d+c):=by rw[h2]
  simp only[Nat.mul_add,Nat.mul_left_comm (wp (i+j)) 18446744073709551616,Nat.mul_left_comm x 18446744073709551616,Nat.mul_assoc] at hs h3 ⊢;omega
theorem IJ {n:Nat} {l k:List Nat} (hl:Wd l) (hk:Wd k) (hb:l.length<500000000) (hb':k.length<500000000) (hn:l.length<n) (hn':k.length<n) :
  ∃r,EH n l k=some r∧Wd r∧vl r=vl l*vl k∧r.length=l.length+k.length:=by
 have hL:∀r i m b,i+r=l.length→r<m→Wd b→b.length=l.length+k.length→(∀p,i+k.length≤p→p<l.length+k.length→b[p]? = some 0) →
   vl b+wp i*(vl (l.drop i)*vl k)=vl l*vl k →
   ∃q,bG (oe n l k) m (b,l.length+k.length,((i:Nat):Int))=some (q,l.length+k.length)∧Wd q∧q.length=l.length+k.length∧vl q=vl l*vl k:=by
  intro r
  induction r with
  | zero =>
   intro i m b hi hm hw hlen _ hv;obtain⟨m,rfl⟩:∃m',m=m'+1:=⟨m-1,by omega⟩
   have hi':i=l.length:=by omega
   refine⟨b,aM ?_,hw,hlen,?_⟩
   ·unfold oe
    dsimp only
    rw[bf (by omega)]
   ·rw[←hv,hi',List.drop_length,kL]; simp
  | succ r ih =>
   intro i m b hi hm hw hlen hz hv;obtain⟨m,rfl⟩:∃m',m=m'+1:=⟨m-1,by omega⟩
   have hi':i<l.length:=by omega
   obtain⟨x,e2⟩:∃x,l[i]? = some x:=⟨l[i],by simp⟩
   have hx:=hl.at e2;obtain⟨q,c,q1,q2,q3,q4,q5,q6⟩:=Ie (n:=n) (i:=i) hk hx (N:=l.length+k.length) (by omega) (by omega) hw hlen k.length 0 n b 0 (by omega) hn' hw hlen (by decide) (fun _ _=>rfl) (by simp)
   have e3:q[i+k.length]? = some 0:=by rw[q5 _ (Nat.le_refl _)]; exact hz _ (Nat.le_refl _) (by omega)
   have w1:IntKind.wrap .i64 ((i:Int)+(k.length:Int))=((i+k.length:Nat):Int):=by rw[aR (by omega) (by omega)]; omega
   have st:oe n l k (b,l.length+k.length,((i:Nat):Int))=some (.inl (q.set (i+k.length) c,l.length+k.length,((i+1:Nat):Int))):=by
    unfold oe
    dsimp only
    rw[bB (by omega),aw hi',aD,Int.toNat_natCast,e2,ah]
    rw[show((0:Int))=((0:Nat):Int) from rfl,q1,ah]
    dsimp only
    rw[w1,aw (by omega),aD,Int.toNat_natCast,e3,ah,aH (by omega)]
   rw[aU st];refine ih (i+1) m _ (by omega) (by omega) (q2.set q4) (by rw[List.length_set]; exact q3) (fun p h1 h2=>by rw[List.getElem?_set_ne (by omega),q5 p (by omega)]; exact hz p (by omega) h2) ?_
   have hs:=F3 c e3;rw[lV e2] at hv;rw[←hv,fE];generalize vl (q.set (i+k.length) c)=Z at hs ⊢;generalize vl (l.drop (i+1))=A at hv ⊢;have h4:wp i*((x+18446744073709551616*A)*vl k)=wp i*(x*vl k)+18446744073709551616*wp i*(A*vl k):=by
    simp only[Nat.add_mul,Nat.mul_add,Nat.mul_assoc,Nat.mul_left_comm (wp i) 18446744073709551616]
   rw[h4];omega
 unfold EH;have w1:IntKind.wrap .i64 ((l.length:Int)+(k.length:Int))=((l.length+k.length:Nat):Int):=by rw[aR (by omega) (by omega)]; omega
 obtain⟨q,q1,q2,q3,q4⟩:=hL l.length 0 n (List.replicate (l.length+k.length) 0) (by omega) hn (Wd.zeros _) (by simp) (fun p _ h2=>by rw[List.getElem?_replicate]; simp[h2]) (by rw[EE,wP]; simp)
 refine⟨q,?_,q2,q4,q3⟩;rw[w1,cM (by omega),Int.toNat_natCast,ga (by omega),aD]
 rw[show((0:Int))=((0:Nat):Int) from rfl,q1]
 rfl
theorem D9 {n:Nat} {a b:Int} {s t:Bool} {l k:List Nat} (h:Lg a s l) (h':Lg b t k) (hb:l.length<1000000) (hb':k.length<1000000) (hn:l.length+k.length<n) :
  ∃u m,M4 n s l t k=some (u,m)∧Lg (a*b) u m:=by
 obtain⟨r,r1,r2,r3,r4⟩:=IJ (n:=n) h.wd h'.wd (by omega) (by omega) (by omega) (by omega)
 obtain⟨u,m,m1,m2⟩:=kD (n:=n) (!(s == t)) r2 (by omega) (by omega)
 refine⟨u,m,by unfold M4; rw[r1,ah,m1]; rfl,?_⟩
 have:a*b=yJ (!(s == t)) (vl r):=by
  rw[h.val,h'.val,r3]; unfold yJ;cases s<;>cases t<;>simp[Int.neg_mul,Int.mul_neg]
 rw[this]; exact m2
theorem uR {a b:Nat} (ha:a<18446744073709551616) (h:b≤a):fc .u64 a b=a-b:=by
 show(a+(18446744073709551616-b%18446744073709551616))%18446744073709551616=a-b
 omega
theorem DN (n0:Nat) {u y1 y0 d:Nat} (h1:2147483648≤y1) (h1':y1<4294967296) (h0:y0<4294967296) (hd:d<4294967296) {Q:Nat} (le_iff:∀p,p≤Q↔p*y1*4294967296+p*y0≤u*4294967296+d) (hQb:Q<4294967296) :
  ∀k r q m,4294967296≤r+k*2147483648→k<m→q*y1+r=u→Q≤q→q≤4294967297→r<4294967296→bG (e9 n0 d y0 y1) m (r,q)=some Q:=by
 intro k
 induction k with
 | zero=>intro r q m hk _ _ _ _ hr; omega
 | succ k ih =>
  intro r q m hk hm hq hQ hqb hr;obtain⟨m,rfl⟩:∃m',m=m'+1:=⟨m-1,by omega⟩
  by_cases hT:4294967296≤q∨4294967296*r+d<q*y0
  ·have hlt:Q<q:=by
    rcases hT with hT|hT
    ·omega
    ·refine Nat.lt_of_not_le fun h=>?_;rw[le_iff] at h;omega
   obtain⟨p,rfl⟩:∃p,q=p+1:=⟨q-1,by omega⟩
   rw[Nat.add_mul,Nat.one_mul] at hq;have test:(br (decide (4294967296≤p+1)) (some true) (some (decide (uw .u64 ((uw .u64 (4294967296*r))+d)<uw .u64 ((p+1)*y0)))))=some true:=by
    by_cases hb:4294967296≤p+1
    ·rw[bB hb]
    ·have h2:(p+1)*y0≤4294967295*4294967295:=Nat.mul_le_mul (by omega) (by omega)
     rw[bf hb,pL (a:=4294967296*r) (by omega),pL (by omega),pL (by omega),decide_eq_true (by omega)]
   have sb:fc .u64 (p+1) 1=p:=uR (by omega) (by omega)
   by_cases hb:4294967296≤r+y1
   ·have st:e9 n0 d y0 y1 (r,p+1)=some (.inr p):=by
     unfold e9
     dsimp only
     rw[test,ah,bI,pL (a:=r+y1) (by omega),bB hb,sb]
    rw[aM st];have h2:p*y0≤4294967296*4294967295:=Nat.mul_le_mul (by omega) (by omega)
    have h3:p≤Q:=by rw[le_iff]; omega
    rw[show p=Q by omega]
   ·have st:e9 n0 d y0 y1 (r,p+1)=some (.inl (r+y1,p)):=by
     unfold e9
     dsimp only
     rw[test,ah,bI,pL (a:=r+y1) (by omega),bf hb,sb]
    rw[aU st];exact ih (r+y1) p m (by omega) (by omega) (by omega) (by omega) (by omega) (by omega)
  ·have hq2:q<4294967296:=by omega
   have h2:q*y0≤4294967295*4294967295:=Nat.mul_le_mul (by omega) (by omega)
   have st:e9 n0 d y0 y1 (r,q)=some (.inr q):=by
    unfold e9
    dsimp only
    rw[bf (by omega),pL (a:=4294967296*r) (by omega),pL (by omega),pL (by omega),ah,bf (by omega)]
   rw[aM st];have h3:q≤Q:=by rw[le_iff]; omega
   rw[show q=Q by omega]
theorem Dx (n0 y s y1 y0 d e:Nat):∀m q r,bG (rp n0) m (y,s,y1,y0,d,e,q,r)=(bG (e9 n0 d y0 y1) m (r,q)).map fun q=>(y,s,y1,y0,d,e,q):=by
 intro m
 induction m with
 | zero=>intro q r; rfl
 | succ m ih =>
  intro q r;have a:∀b,(br b (br (decide (4294967296≤uw .u64 (r+y1))) (some (.inr (y,s,y1,y0,d,e,fc .u64 q 1))) (some (.inl (y,s,y1,y0,d,e,fc .u64 q 1,uw .u64 (r+y1))))) (some (.inr (y,s,y1,y0,d,e,q))):Option ((Nat × Nat × Nat × Nat × Nat × Nat × Nat × Nat) ⊕ (Nat × Nat × Nat × Nat × Nat × Nat × Nat))) =
   (br b (br (decide (4294967296≤uw .u64 (r+y1))) (some (.inr (fc .u64 q 1))) (some (.inl (uw .u64 (r+y1),fc .u64 q 1)))) (some (.inr q)):Option ((Nat × Nat) ⊕ Nat)).map fun x=>match x with | .inl (r,q)=>.inl (y,s,y1,y0,d,e,q,r) | .inr q=>.inr (y,s,y1,y0,d,e,q):=by
   intro b;cases b
   ·rfl
   ·rw[bI,bI];cases decide (4294967296≤uw .u64 (r+y1))<;>rfl
  have st:rp n0 (y,s,y1,y0,d,e,q,r)=(e9 n0 d y0 y1 (r,q)).map fun x=>match x with | .inl (r,q)=>.inl (y,s,y1,y0,d,e,q,r) | .inr q=>.inr (y,s,y1,y0,d,e,q):=by
   unfold rp e9
   dsimp only
   cases(br (decide (4294967296≤q)) (some true) (some (decide (uw .u64 ((uw .u64 (4294967296*r))+d)<uw .u64 (q*y0)))):Option Bool) with
   | none=>rfl
   | some b=>exact a b
  unfold bG;rw[st];cases e9 n0 d y0 y1 (r,q) with
  | none=>rfl
  | some x =>
   cases x with
   | inl p=>exact ih p.2 p.1
   | inr p=>rfl
theorem uj {a b:Nat} (h:b≤a) (hr:a-b<18446744073709551616):fc .u64 (uw .u64 a) (uw .u64 b)=a-b:=by
 show(a%18446744073709551616+(18446744073709551616-b%18446744073709551616%18446744073709551616))%18446744073709551616=a-b
 omega
theorem LP {x:Nat} (h0:0<x):2 ^ (bl x-1)≤x∧x<2 ^ bl x∧0<bl x:=by
 have h1:0<bl x:=ja.2 (by simp; omega)
 refine⟨ja.1 (by omega),?_,h1⟩
 exact Nat.lt_of_not_le fun h=>Nat.lt_irrefl _ (ja.2 h)
theorem vC {a s:Nat} (h:s≤64):ej .u64 a s=uw .u64 (a*2 ^ s):=by
 have:min s (IntKind.bits .u64)=s:=Nat.min_eq_left h;unfold ej;rw[this]
theorem BC {a s:Nat} (h:s≤64):bu .u64 a s=a/2 ^ s:=by
 have:min s (IntKind.bits .u64)=s:=Nat.min_eq_left h;unfold bu;rw[this]
theorem Bq {n:Nat} (hn:4<n) {u y1 y0 d:Nat} (h1:2147483648≤y1) (h1':y1<4294967296) (h0:y0<4294967296) (hd:d<4294967296) (hu:u<y1*4294967296+y0) :
  bG (e9 n d y0 y1) n (fc .u64 u (uw .u64 (uw .u64 (u/y1)*y1)),uw .u64 (u/y1))=some ((u*4294967296+d)/(y1*4294967296+y0)):=by
 have e1:=Nat.div_add_mod u y1;have e2:=Nat.mod_lt u (show 0<y1 by omega)
 rw[Nat.mul_comm] at e1;have hq:u/y1≤4294967297:=by
  have:u/y1<4294967298:=by rw[Nat.div_lt_iff_lt_mul (by omega)]; omega
  omega
 rw[pL (a:=u/y1) (by omega),pL (a:=u/y1*y1) (by omega),uR (by omega) (by omega)]
 have hy:0<y1*4294967296+y0:=by omega
 refine DN n h1 h1' h0 hd (fun p=>by rw[Nat.le_div_iff_mul_le hy,Nat.mul_add,←Nat.mul_assoc]) (by rw[Nat.div_lt_iff_lt_mul hy]; omega) 2 _ _ n (by omega) (by omega) (by omega) ?_ hq (by omega)
 have:(u*4294967296+d)/(y1*4294967296+y0)<u/y1+1:=by
  rw[Nat.div_lt_iff_lt_mul hy,Nat.add_mul,Nat.one_mul,Nat.mul_add,←Nat.mul_assoc];omega
 omega
theorem Ib {U w v A B R1 R0 d1 d0:Nat} (hU:U=w*4294967296) (h6:4294967296*d1+d0=v) (h5:A*4294967296+R1*4294967296=(w+d1)*4294967296) (m3:B+R0=R1*4294967296+d0) :
  U+v=R0+(A*4294967296+B):=by
 omega
theorem NT (u:Nat):u*18446744073709551616=u*4294967296*4294967296:=by rw[Nat.mul_assoc]
theorem Jw {n:Nat} (hn:4<n) {x1 x2 x3:Nat} (h5:x1<x3) (h2:x2<18446744073709551616) (h3:x3<18446744073709551616) :
  Gr n x1 x2 x3=some ((x1*18446744073709551616+x2)/x3,(x1*18446744073709551616+x2)%x3):=by
 unfold Gr;rw[bf (by omega),bf (by omega)]
 by_cases hz:x1=0
 ·subst hz;rw[bB rfl,cM (by omega),cM (by omega),pL (Nat.lt_of_le_of_lt (Nat.div_le_self _ _) h2)]
  simp
 ·rw[bf hz];obtain⟨l1,l2,l3⟩:=LP (x:=x3) (by omega)
  have l4:bl x3≤64:=Kh h3;obtain⟨s,hs⟩:∃s,bl x3+s=64:=⟨64-bl x3,by omega⟩
  have r0:Dy n x3=some ((s:Nat):Int):=by
   unfold Dy;rw[wh n x3 h3,ah,aR (by omega) (by omega)]
   congr 1
   omega
  have u0:ui .u64 ((s:Nat):Int)=s:=by
   show(((s:Nat):Int)%((2 ^ 64:Nat):Int)).toNat=s
   omega
  have P0:0<2 ^ s:=Nat.two_pow_pos s;have PP:2 ^ s*2 ^ (64-s)=18446744073709551616:=by rw[←Nat.pow_add,show s+(64-s)=64 by omega]
  have X1:x3*2 ^ s<18446744073709551616:=by
   have:x3*2 ^ s<2 ^ bl x3*2 ^ s:=Nat.mul_lt_mul_of_pos_right l2 P0;rw[←Nat.pow_add,hs] at this;exact this
  have X2:9223372036854775808≤x3*2 ^ s:=by
   have:2 ^ (bl x3-1)*2 ^ s≤x3*2 ^ s:=Nat.mul_le_mul_right _ l1;rw[←Nat.pow_add,show bl x3-1+s=63 by omega] at this
   exact this
  have X3:x1*2 ^ s<x3*2 ^ s:=Nat.mul_lt_mul_of_pos_right h5 P0;have s0:ej .u64 x3 s=x3*2 ^ s:=by
   rw[vC (by omega),pL X1]
  have s1:ej .u64 x1 s=x1*2 ^ s:=by
   rw[vC (by omega),pL (by omega)]
  have s2:ej .u64 x2 s=x2*2 ^ s%18446744073709551616:=by
   rw[vC (by omega)]; rfl
  have t0:bu .u64 x2 (fc .u64 64 s)=x2/2 ^ (64-s):=by
   rw[uR (by decide) (by omega)]
   rw[BC (by omega)]
  have t1:x2/2 ^ (64-s)<2 ^ s:=by rw[Nat.div_lt_iff_lt_mul (Nat.two_pow_pos _),PP]; exact h2
  have t2:x2*2 ^ s/18446744073709551616=x2/2 ^ (64-s):=by rw[←PP,Nat.mul_comm x2,Nat.mul_div_mul_left _ _ P0]
  have hor:uw .u64 (uw .u64 (x1*2 ^ s) ||| uw .u64 (x2/2 ^ (64-s)))=x1*2 ^ s+x2/2 ^ (64-s):=by
   have h1:x2/2 ^ (64-s)≤x2:=Nat.div_le_self _ _;rw[fH (show x1*2 ^ s<2 ^ 64 by omega) (show x2/2 ^ (64-s)<2 ^ 64 by omega),←Nat.shiftLeft_eq,Nat.shiftLeft_add_eq_or_of_lt t1]
  rw[r0,ah,u0,ah,s0,s1,t0,hor,s2];have key:(x1*2 ^ s+x2/2 ^ (64-s))*18446744073709551616+x2*2 ^ s%18446744073709551616=(x1*18446744073709551616+x2)*2 ^ s:=by
   have:=Nat.div_add_mod (x2*2 ^ s) 18446744073709551616;rw[t2] at this;rw[Nat.add_mul,Nat.add_mul,Nat.mul_right_comm x1];omega
  have hv:x2*2 ^ s%18446744073709551616<18446744073709551616:=Nat.mod_lt _ (by decide)
  have hu:x1*2 ^ s+x2/2 ^ (64-s)<x3*2 ^ s:=by
   have h1:(x1*18446744073709551616+x2)*2 ^ s<(x3*18446744073709551616)*2 ^ s:=Nat.mul_lt_mul_of_pos_right (by omega) P0
   rw[←key,Nat.mul_right_comm x3] at h1;omega
  have r1:(x1*18446744073709551616+x2)/x3=((x1*18446744073709551616+x2)*2 ^ s)/(x3*2 ^ s):=by rw[Nat.mul_div_mul_right _ _ P0]
  have r2:(x1*18446744073709551616+x2)%x3=(((x1*18446744073709551616+x2)*2 ^ s)%(x3*2 ^ s))/2 ^ s:=by rw[Nat.mul_mod_mul_right,Nat.mul_div_cancel _ P0]
  rw[r1,r2,←key];have hss:∀R,bu .u64 R s=R/2 ^ s:=fun R=>BC (by omega)
  clear PP t1 t2 hor key r1 r2 r0 u0 s1 s2 s0 t0 P0 X3 l1 l2 l3 l4 hs;generalize x1*2 ^ s+x2/2 ^ (64-s)=u at hu ⊢;generalize x2*2 ^ s%18446744073709551616=v at hv ⊢;generalize x3*2 ^ s=X at X1 X2 hu ⊢;have hX:X/4294967296*4294967296+X%4294967296=X:=Nat.div_add_mod' _ _;rw[cM (show 0<bu .u64 X 32 by rw[Hg]; omega)]
  simp only[Hg,yB X1,yB hv];rw[ah,Dx];rw[Bq hn (u:=u) (y1:=X/4294967296) (y0:=X%4294967296) (d:=v/4294967296) (by omega) (by omega) (by omega) (by omega) (by omega),hX]
  have q0:(u*4294967296+v/4294967296)/X<4294967296:=by rw[Nat.div_lt_iff_lt_mul (by omega)]; omega
  have m3:=Nat.div_add_mod (u*4294967296+v/4294967296) X;have m2:=Nat.mod_lt (u*4294967296+v/4294967296) (show 0<X by omega)
  rw[Option.map_some,ah]
  dsimp only
  rw[ah,cM (by omega)]
  have e0:uw .u64 (uw .u64 (u*4294967296)+v/4294967296)=uw .u64 (u*4294967296+v/4294967296):=Nat.mod_add_mod _ _ _;rw[Nat.mul_comm X] at m3;rw[e0,uj (by omega) (by omega)]
  have e1:u*4294967296+v/4294967296-(u*4294967296+v/4294967296)/X*X=(u*4294967296+v/4294967296)%X:=by omega
  rw[e1];obtain⟨Q1,hQ1⟩:∃Q,(u*4294967296+v/4294967296)/X=Q:=⟨_,rfl⟩;obtain⟨R1,hR1⟩:∃R,(u*4294967296+v/4294967296)%X=R:=⟨_,rfl⟩;clear e1;rw[hQ1] at q0 m3 ⊢;rw[hR1] at m3 m2 ⊢;rw[Bq hn (u:=R1) (y1:=X/4294967296) (y0:=X%4294967296) (d:=v%4294967296) (by omega) (by omega) (by omega) (by omega) (by omega),hX,ah]
  have q1:(R1*4294967296+v%4294967296)/X<4294967296:=by rw[Nat.div_lt_iff_lt_mul (by omega)]; omega
  have m1:=Nat.div_add_mod (R1*4294967296+v%4294967296) X;have m4:=Nat.mod_lt (R1*4294967296+v%4294967296) (show 0<X by omega)
  rw[Nat.mul_comm X] at m1;have e2:uw .u64 (uw .u64 (R1*4294967296)+v%4294967296)=uw .u64 (R1*4294967296+v%4294967296):=Nat.mod_add_mod _ _ _;rw[e2,ah,uj (by omega) (by omega)]
  have e3:R1*4294967296+v%4294967296-(R1*4294967296+v%4294967296)/X*X=(R1*4294967296+v%4294967296)%X:=by omega
  rw[e3,hss];obtain⟨Q0,hQ0⟩:∃Q,(R1*4294967296+v%4294967296)/X=Q:=⟨_,rfl⟩;obtain⟨R0,hR0⟩:∃R,(R1*4294967296+v%4294967296)%X=R:=⟨_,rfl⟩;clear e3;rw[hQ0] at q1 m1 ⊢;rw[hR0] at m1 m4 ⊢;rw[pL (a:=Q1*4294967296) (by omega),pL (by omega)]
  clear hQ1 hR1 hQ0 hR0 e0 e2 hss X1 X2 hX q1 q0 m2 hu h5 h2 h3 hz;have fin:u*18446744073709551616+v=R0+(Q1*4294967296+Q0)*X:=by
   have h1:Q1*X*4294967296+R1*4294967296=(u*4294967296+v/4294967296)*4294967296:=by rw[←m3,Nat.add_mul]
   rw[Nat.add_mul,Nat.mul_right_comm Q1];have h4:=Nat.div_add_mod v 4294967296;generalize v/4294967296=d0 at h1 h4;generalize v%4294967296=d1 at m1 h4;generalize Q1*X=A at h1 ⊢;generalize Q0*X=B at m1 ⊢;exact Ib (NT u) h4 h1 m1
  rw[fin,Nat.add_mul_div_right _ _ (show 0<X by omega),Nat.add_mul_mod_self_right,Nat.div_eq_of_lt m4,Nat.mod_eq_of_lt m4,Nat.zero_add]
theorem Ho {q:List Nat} {i e d:Nat}:(List.replicate i 0++e::q).set i d=List.replicate i 0++d::q:=by
 rw[List.set_append_right _ _ (by simp)]
 simp
theorem Hl (i:Nat) (q:List Nat):List.replicate (i+1) 0++q=List.replicate i 0++0::q:=by
 rw[List.replicate_succ',List.append_assoc]; rfl
theorem Jl {n:Nat} {l:List Nat} {d:Nat} (hl:Wd l) (hd:d<18446744073709551616) (h0:d≠0) (hb:l.length<1000000) (hn:l.length<n) (hn4:4<n) :
  ∃q t m,NA n l [d]=some (q,m)∧Wd q∧vl q=vl l/d∧q.length=l.length∧Lg ((vl l%d:Nat):Int) t m∧t=false:=by
 have hL:∀i q r m,i+q.length=l.length→i<m→Wd q→r<d→vl l=vl (l.take i)+wp i*(d*vl q+r) →
   ∃q' r',bG (td n l [d]) m (List.replicate i 0++q,r,(i:Int)-1)=some (q',r')∧Wd q'∧q'.length=l.length∧r'<d∧vl l=d*vl q'+r':=by
  intro i
  induction i with
  | zero =>
   intro q r m hi hm hq hr hv;obtain⟨m,rfl⟩:∃m',m=m'+1:=⟨m-1,by omega⟩
   refine⟨q,r,aM ?_,hq,by omega,hr,?_⟩
   ·unfold td
    dsimp only
    rw[bf (by decide)]; rfl
   ·rw[hv]; simp[vl,wp]
  | succ i ih =>
   intro q r m hi hm hq hr hv;obtain⟨m,rfl⟩:∃m',m=m'+1:=⟨m-1,by omega⟩
   have hi':i<l.length:=by omega
   obtain⟨x,e2⟩:∃x,l[i]? = some x:=⟨l[i],by simp⟩
   have hx:=hl.at e2;have e0:((i+1:Nat):Int)-1=((i:Nat):Int):=by omega
   have ht:vl (l.take (i+1))=vl (l.take i)+wp i*x:=by
    rw[List.take_add_one,e2,Option.toList_some,qc,List.length_take,Nat.min_eq_left (Nat.le_of_lt hi')]
   have e3:(List.replicate (i+1) 0++q)[i]? = some 0:=by rw[List.getElem?_append_left (by simp),List.getElem?_replicate]; simp
   have hqd:(r*18446744073709551616+x)/d<18446744073709551616:=by
    rw[Nat.div_lt_iff_lt_mul (by omega),Nat.mul_comm _ d]
    have:(r+1)*18446744073709551616≤d*18446744073709551616:=Nat.mul_le_mul_right _ hr;omega
   have st:td n l [d] (List.replicate (i+1) 0++q,r,((i:Nat):Int))=some (.inl (List.replicate i 0++(r*18446744073709551616+x)/d::q,(r*18446744073709551616+x)%d,(i:Int)-1)):=by
    unfold td
    dsimp only
    rw[bB (by omega),aw hi',aD,Int.toNat_natCast,e2,ah]
    rw[show bE 0 [d].length=true from rfl,aD,show([d]:List Nat)[(0:Int).toNat]? = some d from rfl,ah,Jw hn4 hr hx hd,ah]
    dsimp only
    rw[Int.toNat_natCast,aw hi',aD,e3,ah,Hl,Ho,aR (by omega) (by omega)]
   rw[e0,aU st];refine ih _ _ m (by rw[List.length_cons]; omega) (by omega) (fun e he=>?_) (Nat.mod_lt _ (by omega)) ?_
   ·rcases List.mem_cons.1 he with rfl|h
    ·exact hqd
    ·exact hq e h
   ·have h1:=Nat.div_add_mod (r*18446744073709551616+x) d;rw[hv,ht,fE,fC];generalize (r*18446744073709551616+x)%d=R at h1 ⊢;generalize (r*18446744073709551616+x)/d=Q at h1 ⊢;have h2:wp i*(d*Q+R)=wp i*(r*18446744073709551616+x):=by rw[h1]
    rw[Nat.mul_comm r] at h2;simp only[Nat.mul_add,Nat.mul_left_comm (wp i) 18446744073709551616,Nat.mul_left_comm d 18446744073709551616,Nat.mul_assoc] at h2 ⊢;omega
 obtain⟨q,r,q1,q2,q3,q4,q5⟩:=hL l.length [] 0 n (by simp) hn Wd.nil (by omega) (by rw[List.take_length,kL]; simp)
 rw[List.append_nil] at q1;obtain⟨t,m,m1,m2⟩:=kD (n:=n) false (Wd.one (show r<18446744073709551616 by omega)) (by simp) (by simp; omega)
 have hr:vl [r]=r:=by simp[vl]
 rw[hr] at m2;have dq:vl q=vl l/d:=by
  rw[q5,Nat.mul_add_div (by omega),Nat.div_eq_of_lt q4]; rfl
 have dr:r=vl l%d:=by
  rw[q5,Nat.mul_add_mod,Nat.mod_eq_of_lt q4]
 refine⟨q,t,m,?_,q2,dq,q3,by rw[←dr]; exact m2,?_⟩
 ·unfold NA;rw[cM (by omega),Int.toNat_natCast,ga (by omega),aD,bB (show(([d]:List Nat).length:Int)=1 from rfl),aR (by omega) (by omega),q1,ah]
  dsimp only
  rw[m1]; rfl
 ·have:=m2.Es;rw[this];simp[yJ]
theorem MQ {n:Nat} {a b:Int} {s t:Bool} {l k:List Nat} (h:Lg (a*b) s l) (h':Lg b t k) (h0:b≠0) (hbb:b.natAbs<18446744073709551616) (hb:l.length<1000000) (hn:l.length<n) (hn4:4<n) :
  ∃u m v o,Ov n s l t k=some (u,m,v,o)∧Lg a u m:=by
 have hk:=h'.O5 h0 hbb;subst hk;obtain⟨q,t',m,q1,q2,q3,q4,q5,q6⟩:=Jl (n:=n) h.wd hbb (by omega) hb hn hn4
 obtain⟨u,m',u1,u2⟩:=kD (n:=n) (!(s == t)) q2 (by omega) (by omega)
 have hz:(vl l%b.natAbs:Nat)=0:=by rw[h.abs,Int.natAbs_mul,Nat.mul_mod_left]
 rw[hz] at q5;obtain⟨rfl,rfl⟩:=q5.inj Lg.zero;obtain⟨v,o,v1,v2⟩:=kD (n:=n) s Wd.nil (by simp) (by simp; omega)
 have v3:Lg 0 v o:=by rw[kL,yb] at v2; exact v2
 obtain⟨rfl,rfl⟩:=v3.inj Lg.zero;refine⟨u,m',false,[],?_,?_⟩
 ·unfold Ov;rw[q1,ah]
  dsimp only
  rw[u1,ah]
  dsimp only
  rw[v1,ah]
  rfl
 ·have e1:vl q=a.natAbs:=by rw[q3,h.abs,Int.natAbs_mul,Nat.mul_div_cancel _ (by omega)]
  have hs:=h.Es;have ht:=h'.Es;have:a=yJ (!(s == t)) (vl q)∨(a=0):=by
   by_cases ha:a=0
   ·exact .inr ha
   ·refine .inl ?_;rw[e1,hs,ht];unfold yJ
    by_cases hb0:b<0<;>by_cases ha0:a<0
    ·have:¬a*b<0:=Int.not_lt.2 (Int.mul_nonneg_of_nonpos_of_nonpos (by omega) (by omega))
     simp[hb0,this]; omega
    ·have:a*b<0:=Int.mul_neg_of_pos_of_neg (by omega) hb0
     simp[hb0,this]; omega
    ·have:a*b<0:=Int.mul_neg_of_neg_of_pos ha0 (by omega)
     simp[hb0,this]; omega
    ·have:¬a*b<0:=Int.not_lt.2 (Int.mul_nonneg (by omega) (by omega))
     simp[hb0,this]; omega
  rcases this with e|e
  ·rw[e]; exact u2
  ·rw[e,Int.natAbs_zero] at e1;rw[e1,yb] at u2;rw[e]; exact u2
theorem N5 (m:Nat):w9 (m+20) 0=some (false,[]):=by rfl
theorem O6 (m:Nat):w9 (m+20) 1=some (false,[1]):=by rfl
theorem Oi (m:Nat):w9 (m+20) (-1)=some (true,[1]):=by rfl
theorem xh {n:Nat} (h:20≤n):w9 n 0=some (false,[]):=by obtain⟨m,rfl⟩:∃m,n=m+20:=⟨n-20,by omega⟩; exact N5 m
theorem wu {n:Nat} (h:20≤n):w9 n 1=some (false,[1]):=by obtain⟨m,rfl⟩:∃m,n=m+20:=⟨n-20,by omega⟩; exact O6 m
theorem CH {n:Nat} (h:20≤n):w9 n (-1)=some (true,[1]):=by obtain⟨m,rfl⟩:∃m,n=m+20:=⟨n-20,by omega⟩; exact Oi m
theorem AA:Lg 1 false [1]:=Lg.small (by decide) (by decide) false
theorem Gu:Lg (-1) true [1]:=Lg.small (by decide) (by decide) true
end Go.Proofs.YtookeaakpiefjaaDoor
end

section
namespace Go.Proofs.YtookeaakpiefjaaDoor
open Go Go.Ab Go.Ab.W Go.Ab.T30
def uy (s:Nat) (L:List (List (Bool × List Nat))) (M:Mt):Prop :=
 L.length=s∧∀r,r<s→∃row,L[r]? = some row∧row.length=s∧∀c,c<s→∃t k,row[c]? = some (t,k)∧Lg (M r c) t k
section
variable {s : Nat} {L : List (List (Bool × List Nat))} {M M' : Mt}
theorem uy.congr (h:uy s L M) (he:∀r c,r<s→c<s→M r c=M' r c):uy s L M' :=
 ⟨h.1,fun r hr=>by
  obtain⟨row,h1,h2,h3⟩:=h.2 r hr;exact⟨row,h1,h2,fun c hc=>by rw[←he r c hr hc]; exact h3 c hc⟩⟩
theorem uy.at (h:uy s L M) {r c:Nat} (hr:r<s) (hc:c<s):∃row t k,L[r]? = some row∧row.length=s∧row[c]? = some (t,k)∧Lg (M r c) t k:=by
 obtain⟨row,h1,h2,h3⟩:=h.2 r hr;obtain⟨t,k,h4,h5⟩:=h3 c hc;exact⟨row,t,k,h1,h2,h4,h5⟩
theorem uy.set (h:uy s L M) {i j:Nat} {row:List (Bool × List Nat)} {t:Bool} {k:List Nat} {x:Int} (hi:i<s) (hj:j<s) (hrow:L[i]? = some row) (hx:Lg x t k) :
  uy s (L.set i (row.set j (t,k))) fun r c=>if r=i∧c=j then x else M r c:=by
 refine⟨by rw[List.length_set]; exact h.1,fun r hr=>?_⟩
 by_cases hri:r=i
 ·subst hri;obtain⟨row',h1,h2,h3⟩:=h.2 r hr;rw[hrow] at h1;cases h1;refine⟨_,by rw[List.getElem?_set_self (by rw[h.1]; exact hr)],by rw[List.length_set]; exact h2,fun c hc=>?_⟩
  by_cases hcj:c=j
  ·subst hcj;exact⟨t,k,by rw[List.getElem?_set_self (by rw[h2]; exact hc)],by dsimp only; rw[if_pos ⟨rfl,rfl⟩]; exact hx⟩
  ·dsimp only
   rw[List.getElem?_set_ne (fun e=>hcj e.symm),if_neg (fun e:r=r∧c=j=>hcj e.2)];exact h3 c hc
 ·obtain⟨row',h1,h2,h3⟩:=h.2 r hr;refine⟨row',by rw[List.getElem?_set_ne (fun e=>hri e.symm)]; exact h1,h2,fun c hc=>?_⟩
  dsimp only
  rw[if_neg (fun e:r=i∧c=j=>hri e.1)];exact h3 c hc
end
theorem Gd {a b:Nat} (h:a<b):Nat.blt a b=true:=Nat.ble_eq_true_of_le h
def PA (s k:Nat) (M:Mt):Prop:=∀r c,k≤r→r<s→k≤c→c<s→(M r c).natAbs<wp 15
theorem k8 {a b:Int} {j k:Nat} (ha:a.natAbs<wp j) (hb:b.natAbs<wp k):(a*b).natAbs<wp (j+k):=by
 rw[Int.natAbs_mul,Lk];have h1:a.natAbs*b.natAbs≤a.natAbs*wp k:=Nat.mul_le_mul_left _ (Nat.le_of_lt hb);have h2:a.natAbs*wp k<wp j*wp k:=Nat.mul_lt_mul_of_pos_right ha (Hr k);omega
theorem EJ {n:Nat} (hn:100<n) {s k r:Nat} {A M:Mt} {p:Int} (hB:Bar A s k M p) (hk:k<s) (hr:k<r) (hrs:r<s) (hs:s≤64) (h0:M k k≠0) (hp:p.natAbs<18446744073709551616) (hb:PA s k M)
  {tf:Bool} {kf:List Nat} (hf:Lg (M r k) tf kf) {tp:Bool} {kp:List Nat} (hP:Lg p tp kp) {N:Mt} (hN:∀b,N k b=M k b) :
  ∀j c m L,c+j=s→j<m→k≤c→uy s L (fun a b=>if a=r then(if k≤b∧b<c then C9 M k p a b else M a b) else N a b) →
   ∃L',bG (re n s (r:Int) (k:Int) tf kf tp kp) m (L,(c:Int))=some L'∧uy s L' (fun a b=>if a=r then(if k≤b∧b<s then C9 M k p a b else M a b) else N a b):=by
 intro j
 induction j with
 | zero =>
  intro c m L hj hm hkc hL;obtain⟨m,rfl⟩:∃m',m=m'+1:=⟨m-1,by omega⟩
  have hc:c=s:=by omega
  subst hc;refine⟨L,aM ?_,hL⟩;unfold re
  dsimp only
  rw[bf (by omega)]
 | succ j ih =>
  intro c m L hj hm hkc hL;obtain⟨m,rfl⟩:∃m',m=m'+1:=⟨m-1,by omega⟩
  have hc:c<s:=by omega
  obtain⟨row,t1,k1,a1,a2,a3,a4⟩:=hL.at hrs hc;obtain⟨rowk,t2,k2,b1,b2,b3,b4⟩:=hL.at hk hk;obtain⟨rowk',t3,k3,c1,c2,c3,c4⟩:=hL.at hk hc;rw[b1] at c1;cases c1;rw[if_pos rfl,if_neg (by omega)] at a4
  rw[if_neg (by omega),hN] at b4 c4
  have l1:=a4.len (hb r c (by omega) hrs hkc hc)
  have l2:=b4.len (hb k k (by omega) hk (by omega) hk)
  have l3:=c4.len (hb k c (by omega) hk hkc hc)
  have lf:=hf.len (hb r k (by omega) hrs (by omega) hk)
  obtain⟨u1,v1,d1,d2⟩:=D9 (n:=n) a4 b4 (by omega) (by omega) (by omega)
  obtain⟨u2,v2,e1,e2⟩:=D9 (n:=n) hf c4 (by omega) (by omega) (by omega)
  have l4:=d2.len (k8 (hb r c (by omega) hrs hkc hc) (hb k k (by omega) hk (by omega) hk))
  have l5:=e2.len (k8 (hb r k (by omega) hrs (by omega) hk) (hb k c (by omega) hk hkc hc))
  obtain⟨u3,v3,f1,f2⟩:=Be (n:=n) d2 e2 (by omega) (by omega) (by omega)
  have l6:v3.length≤31:=f2.len (by
   have h1:=k8 (hb r c (by omega) hrs hkc hc) (hb k k (by omega) hk (by omega) hk)
   have h2:=k8 (hb r k (by omega) hrs (by omega) hk) (hb k c (by omega) hk hkc hc)
   rw[fE];simp only[Nat.reduceAdd] at h1 h2;omega)
  have hex:=hB.exact hk h0 hr hrs hkc hc;rw[hex,Int.mul_comm] at f2;obtain⟨u4,v4,w4,o4,g1,g2⟩:=MQ (n:=n) f2 hP hB.p0 hp (by omega) (by omega) (by omega)
  have st:re n s (r:Int) (k:Int) tf kf tp kp (L,(c:Int))=some (.inl (L.set r (row.set c (u4,v4)),((c+1:Nat):Int))):=by
   unfold re
   dsimp only
   simp only[Int.toNat_natCast];rw[bB (by omega),aw hrs,aD,a1,ah,cM (by omega),a2,aw hc,aD,a3,ah]
   dsimp only
   rw[aw hk,aD,b1,ah,cM (by omega),b2,aw hk,aD,b3,ah]
   dsimp only
   rw[d1,ah]
   dsimp only
   rw[aD,ah,cM (by omega),b2,aw hc,aD,c3,ah]
   dsimp only
   rw[e1,ah]
   dsimp only
   rw[f1,ah]
   dsimp only
   rw[aD,ah,cM (by omega),g1,ah]
   dsimp only
   rw[a2,aw hc,aD,Gd hc,aD,aH (by omega)]
  rw[aU st];refine ih (c+1) m _ (by omega) (by omega) (by omega) ((hL.set hrs hc a1 g2).congr fun a b ha hb'=>?_)
  by_cases h1:a=r∧b=c
  ·rw[if_pos h1,if_pos h1.1,if_pos ⟨by omega,by omega⟩,h1.1,h1.2]
  ·rw[if_neg h1]
   by_cases h3:a=r
   ·rw[if_pos h3,if_pos h3]
    by_cases h2:k≤b∧b<c
    ·rw[if_pos h2,if_pos ⟨h2.1,by omega⟩]
    ·rw[if_neg h2,if_neg (by omega)]
   ·rw[if_neg h3,if_neg h3]
theorem DO {n:Nat} (hn:100<n) {s k:Nat} {A M:Mt} {p:Int} (hB:Bar A s k M p) (hk:k<s) (hs:s≤64) (h0:M k k≠0) (hp:p.natAbs<18446744073709551616) (hb:PA s k M)
  {tp:Bool} {kp:List Nat} (hP:Lg p tp kp) :
  ∀j r m L,r+j=s→j<m→k<r→uy s L (fun a b=>if k<a∧a<r∧k≤b then C9 M k p a b else M a b) →
   ∃L',bG (oa n s (k:Int) tp kp) m (L,(r:Int))=some L'∧uy s L' (C9 M k p):=by
 intro j
 induction j with
 | zero =>
  intro r m L hj hm hkr hL;obtain⟨m,rfl⟩:∃m',m=m'+1:=⟨m-1,by omega⟩
  have hr:r=s:=by omega
  subst hr;refine⟨L,aM ?_,hL.congr fun a b ha hb'=>?_⟩
  ·unfold oa
   dsimp only
   rw[bf (by omega)]
  ·by_cases h1:k<a∧k≤b
   ·rw[if_pos ⟨h1.1,ha,h1.2⟩]
   ·rw[if_neg (by omega)]; unfold C9; rw[if_neg h1]
 | succ j ih =>
  intro r m L hj hm hkr hL;obtain⟨m,rfl⟩:∃m',m=m'+1:=⟨m-1,by omega⟩
  have hr:r<s:=by omega
  obtain⟨row,t1,k1,a1,a2,a3,a4⟩:=hL.at hr hk;rw[if_neg (by omega)] at a4
  have hL9:∃L',bG (re n s (r:Int) (k:Int) t1 k1 tp kp) n (L,(k:Int))=some L'∧uy s L' (fun a b=>if k<a∧a<r+1∧k≤b then C9 M k p a b else M a b):=by
   obtain⟨L',c1,c2⟩:=EJ hn hB hk hkr hr hs h0 hp hb a4 hP (N:=fun a b=>if k<a∧a<r∧k≤b then C9 M k p a b else M a b) (fun b=>by rw[if_neg (by omega)]) (s-k) k n L (by omega) (by omega) (Nat.le_refl _) (hL.congr fun a b ha hb'=>by
    by_cases h3:a=r
    ·rw[if_neg (by omega),if_pos h3,if_neg (by omega)]
    ·rw[if_neg (c:=a=r) h3])
   refine⟨L',c1,c2.congr fun a b ha hb'=>?_⟩
   by_cases h3:a=r
   ·rw[if_pos h3]
    by_cases h4:k≤b
    ·rw[if_pos ⟨h4,hb'⟩,if_pos ⟨by omega,by omega,h4⟩]
    ·rw[if_neg (by omega),if_neg (by omega)]
   ·rw[if_neg h3]
    by_cases h4:k<a∧a<r∧k≤b
    ·rw[if_pos h4,if_pos ⟨h4.1,by omega,h4.2.2⟩]
    ·rw[if_neg h4,if_neg (by omega)]
  obtain⟨L',b1,b2⟩:=hL9;have st:oa n s (k:Int) tp kp (L,(r:Int))=some (.inl (L',((r+1:Nat):Int))):=by
   unfold oa
   dsimp only
   simp only[Int.toNat_natCast];rw[bB (by omega),aw hr,aD,a1,ah,cM (by omega),a2,aw hk,aD,a3,ah]
   dsimp only
   rw[b1,ah,aH (by omega)]
  rw[aU st];exact ih (r+1) m _ (by omega) (by omega) (by omega) b2
theorem Dw {n:Nat} (hn:100<n) {s:Nat} {A:Mt} (hs:s≤64) (hD:∀k r c,k<s→r<s→c<s→(cx (k+1) (j4 A k r c)).natAbs<wp 15) (hP:∀k,k<s→(cx k A).natAbs<18446744073709551616) :
  ∀j k m L M p tp kp,j+k=s→j<m→uy s L M→Bar A s k M p→Lg p tp kp →
   ∃t q,(bG (iL n s) m (L,tp,kp,(k:Int))=some (.inl (t,q))∨bG (iL n s) m (L,tp,kp,(k:Int))=some (.inr (t,q)))∧Lg (Kf j k M p) t q:=by
 intro j
 induction j with
 | zero =>
  intro k m L M p tp kp hj hm hL hB hp;obtain⟨m,rfl⟩:∃m',m=m'+1:=⟨m-1,by omega⟩
  refine⟨tp,kp,.inr (aM ?_),hp⟩;unfold iL
  dsimp only
  rw[bf (by omega)]
 | succ j ih =>
  intro k m L M p tp kp hj hm hL hB hp;obtain⟨m,rfl⟩:∃m',m=m'+1:=⟨m-1,by omega⟩
  have hk:k<s:=by omega
  obtain⟨row,t1,k1,a1,a2,a3,a4⟩:=hL.at hk hk;obtain⟨r,r1,r2,r3⟩:=zN (n:=n) a4;have hb:PA s k M:=fun r c h1 h2 h3 h4=>by rw[hB.minor h1 h2 h3 h4]; exact hD k r c hk h2 h4
  unfold Kf
  by_cases h0:M k k=0
  ·rw[if_pos h0];refine⟨false,[],.inl (aM ?_),Lg.zero⟩;unfold iL
   dsimp only
   simp only[Int.toNat_natCast];rw[bB (by omega),aw hk,aD,a1,ah,cM (by omega),a2,aw hk,aD,a3,ah]
   dsimp only
   rw[r1,ah,bB (r3.2 h0),xh (by omega),ah]
  ·rw[if_neg h0];obtain⟨L',b1,b2⟩:=DO hn hB hk hs h0 (by rw[hB.pe]; exact hP k hk) hb hp (s-(k+1)) (k+1) n L (by omega) (by omega) (by omega) (hL.congr fun a b _ _=>by rw[if_neg (by omega)])
   obtain⟨row',t2,k2,c1,c2,c3,c4⟩:=b2.at hk hk;have he:C9 M k p k k=M k k:=by unfold C9; rw[if_neg (by omega)]
   rw[he] at c4;have st:iL n s (L,tp,kp,(k:Int))=some (.inl (L',t2,k2,((k+1:Nat):Int))):=by
    unfold iL
    dsimp only
    simp only[Int.toNat_natCast];rw[bB (by omega),aw hk,aD,a1,ah,cM (by omega),a2,aw hk,aD,a3,ah]
    dsimp only
    rw[r1,ah,bf (fun e=>h0 (r3.1 e)),aH (by omega),b1,ah,aD,c1,ah,cM (by omega),c2,aw hk,aD,c3,ah]
   rw[aU st];exact ih (k+1) m L' _ _ t2 k2 (by omega) (by omega) b2 (hB.step hk h0) c4
end Go.Proofs.YtookeaakpiefjaaDoor
end

section
namespace Go.Proofs.YtookeaakpiefjaaDoor
open Go Go.Ab Go.Ab.W
theorem uo {α β:Type} [DecidableEq α] (xs:List (α × β)) (k k':α) (v:β):bZ (dS xs k v) k'=(if k'=k then some v else bZ xs k')∧(dS xs k v).length=(if bZ xs k=none then xs.length+1 else xs.length):=by
 have key:∀(xs:List (α × β)) (i:Nat),(bY k xs i=none→∀j,(bY k' (xs++[(k,v)]) j).map (·.2)=if k'=k then some v else(bY k' xs j).map (·.2)) ∧
   (∀p,bY k xs i=some p→i≤p.1∧∀j,(bY k' (xs.set (p.1-i) (k,v)) j).map (·.2)=if k'=k then some v else(bY k' xs j).map (·.2)):=by
  intro xs
  induction xs with
  | nil =>
   intro i;refine⟨fun _ j=>?_,fun p h=>by simp[bY] at h⟩
   simp only[List.nil_append,bY]
   by_cases h:k'=k<;>simp[h]
  | cons e xs ih =>
   intro i
   by_cases he:k=e.1
   ·refine⟨fun h=>by simp[bY,he] at h,fun p h=>?_⟩
    have hp:p=(i,e.2):=by simp[bY,he] at h; exact h.symm
    subst hp;refine⟨Nat.le_refl _,fun j=>?_⟩;simp only[Nat.sub_self,List.set_cons_zero,bY]
    by_cases h:k'=k
    ·simp[h]
    ·have:k'≠e.1:=fun c=>h (c.trans he.symm);simp[h,this]
   ·refine⟨fun h j=>?_,fun p h=>?_⟩
    ·have h':bY k xs (i+1)=none:=by simpa [bY,he] using h
     simp only[List.cons_append,bY]
     by_cases h2:k'=e.1
     ·have:k'≠k:=fun c=>he (c.symm.trans h2);simp[h2,Ne.symm he]
     ·simp only[if_neg h2];exact(ih (i+1)).1 h' (j+1)
    ·have h':bY k xs (i+1)=some p:=by simpa [bY,he] using h
     obtain⟨g1,g2⟩:=(ih (i+1)).2 p h';refine⟨by omega,fun j=>?_⟩
     rw[show p.1-i=(p.1-(i+1))+1 by omega,List.set_cons_succ]
     simp only[bY]
     by_cases h2:k'=e.1
     ·have:k'≠k:=fun c=>he (c.symm.trans h2);simp[h2,Ne.symm he]
     ·simp only[if_neg h2];exact g2 (j+1)
 unfold bZ dS;cases h:bY k xs 0 with
 | none=>exact⟨(key xs 0).1 h 0,by simp⟩
 | some p=>exact⟨((key xs 0).2 p h).2 0,by simp⟩
theorem oo {α β:Type} [DecidableEq α] (xs:List (α × β)) (k k':α) (v:β):bZ (dS xs k v) k'=if k'=k then some v else bZ xs k':=(uo xs k k' v).1
theorem EA {α β:Type} [DecidableEq α] (xs:List (α × β)) (k:α) (v:β) (h:bZ xs k=none):(dS xs k v).length=xs.length+1:=by rw[(uo xs k k v).2,if_pos h]
theorem FO {α β:Type} [DecidableEq α] (xs:List (α × β)) (k k':α) (v d:β):(bZ (dS xs k v) k').getD d=if k'=k then v else(bZ xs k').getD d:=by
 rw[oo]; split<;>rfl
end Go.Proofs.YtookeaakpiefjaaDoor
end

section
namespace Go.Proofs.YtookeaakpiefjaaDoor
open Go Go.Ab Go.Ab.W Go.Ab.T30
def wi (es:List (Int × Int)) (x:Nat) (W:List (Int × Bool)) (i:Nat):Bool:=eo es x (i:Int) && (bZ W (i:Int)).getD false
def wl (es:List (Int × Int)) (x:Nat) (W:List (Int × Bool)) (i j:Nat):List (Nat × Nat):=((List.range' i j).filter (wi es x W)).map fun(k:Nat)=>eg es (k:Int)
theorem I8 (es:List (Int × Int)) (x:Nat) (W:List (Int × Bool)) (i j:Nat):wl es x W i (j+1)=if wi es x W i then eg es (i:Int)::wl es x W (i+1) j else wl es x W (i+1) j:=by
 unfold wl;rw[List.range'_succ,List.filter_cons]
 split<;>rfl
theorem Eo {N:Nat} {es:List (Int × Int)} (h:Okay N es) {n x:Nat} (hx:x<2 ^ 64) (hn:64<n) (W:List (Int × Bool)) :
  ∀j i m p r E,i+j=es.length→j<m→Fst p r→Rt r E →
   (bj r (wl es x W i j)=true→∃p' E',bG (kX n es x W) m ((i:Int),p,p.length)=some (.inr (p',p'.length))∧Fst p' ((wl es x W i j).foldl bP r)∧Rt ((wl es x W i j).foldl bP r) E') ∧
   (bj r (wl es x W i j)=false→∃p' k,bG (kX n es x W) m ((i:Int),p,p.length)=some (.inl (false,[],p',k))):=by
 intro j
 induction j with
 | zero =>
  intro i m p r E hij hm hp hr;obtain⟨m,rfl⟩:∃m',m=m'+1:=⟨m-1,by omega⟩
  have h0:wl es x W i 0 = []:=rfl;rw[h0];refine⟨fun _=>⟨p,E,aM ?_,hp,hr⟩,fun h=>by cases h⟩
  unfold kX
  dsimp only
  rw[bf (by omega)]
 | succ j ih =>
  intro i m p r E hij hm hp hr;obtain⟨m,rfl⟩:∃m',m=m'+1:=⟨m-1,by omega⟩
  have hi:i<es.length:=by omega
  have hl:=h.len;obtain⟨a,b,g1,g2,g3,g4,_,g5⟩:=eY h (k:=(i:Int)) ⟨by omega,by omega⟩
  rw[Int.toNat_natCast] at g1;have ha:a<64:=by omega
  have hin:eo es x (i:Int)=(x.testBit a && x.testBit b):=by
   simp only[eo,g2];rw[decide_eq_true ⟨by omega,by omega⟩,Bool.true_and]
  have w1:IntKind.wrap .i64 ((i:Int)+1)=((i+1:Nat):Int):=aH (by omega)
  rw[I8,g2]
  by_cases h3:(x.testBit a && x.testBit b)=true
  ·by_cases h4:(bZ W (i:Int)).getD false=true
   ·have hw:wi es x W i=true:=by unfold wi; rw[hin,h3,h4]; rfl
    rw[if_pos hw];have hM:max (r a) (r b)<p.length:=by rw[hp.len]; have:=hr.le a; have:=hr.le b; omega
    have hma:ma ((r a:Nat):Int) ((r b:Nat):Int)=((max (r a) (r b):Nat):Int):=by simp only[ma]; omega
    have hmi:mi ((r a:Nat):Int) ((r b:Nat):Int)=((min (r a) (r b):Nat):Int):=by simp only[mi]; omega
    have hpM:p[max (r a) (r b)]? = some (p[max (r a) (r b)]'hM):=List.getElem?_eq_getElem _;have key:kX n es x W ((i:Int),p,p.length)=if r a=r b then some (.inr (.inl (false,[],p.set (max (r a) (r b)) ((min (r a) (r b):Nat):Int),p.length))) else some (.inl (((i+1:Nat):Int),p.set (max (r a) (r b)) ((min (r a) (r b):Nat):Int),p.length)):=by
     unfold kX
     dsimp only
     rw[bB (by omega),aw hi,aD,Int.toNat_natCast,g1,ah]
     dsimp only
     rw[ko n x a b hx ha g4,ah,h3,bI,ah,h4,bI,wO hp n a ha hn,ah,wO hp n b g4 hn,ah,hma,aw hM,aD,Int.toNat_natCast,hpM,ah,ah,hmi]
     dsimp only
     rw[ah]
     dsimp only
     rw[w1]
     by_cases h5:r a=r b
     ·rw[if_pos h5,decide_eq_true (by omega),xh (by omega)]; rfl
     ·rw[if_neg h5,decide_eq_false (by omega)]; rfl
    unfold bj
    by_cases h5:r a=r b
    ·rw[if_pos h5] at key
     dsimp only
     have:(r a == r b)=true:=by simpa using h5
     rw[this];exact⟨fun h=>(by cases h),fun _=>⟨_,_,aM key⟩⟩
    ·rw[if_neg h5] at key
     dsimp only
     have:(r a == r b)=false:=by simpa using h5
     rw[this,Bool.not_false,Bool.true_and,aU key,List.foldl_cons];have hj:=hp.join hr (e:=(a,b)) ha g4;have:=ih (i+1) m _ _ _ (by omega) (by omega) hj (hr.join (a,b))
     rw[List.length_set] at this;exact this
   ·rw[Bool.not_eq_true] at h4;have hw:wi es x W i=false:=by unfold wi; rw[h4,Bool.and_false]
    rw[hw];have key:kX n es x W ((i:Int),p,p.length)=some (.inl (((i+1:Nat):Int),p,p.length)):=by
     unfold kX
     dsimp only
     rw[bB (by omega),aw hi,aD,Int.toNat_natCast,g1,ah]
     dsimp only
     rw[ko n x a b hx ha g4,ah,h3,bI,ah,h4,bK,ah]
     dsimp only
     rw[bK,ah]
     dsimp only
     rw[ah]
     dsimp only
     rw[w1]
    rw[aU key];exact ih (i+1) m p r E (by omega) (by omega) hp hr
  ·rw[Bool.not_eq_true] at h3;have hw:wi es x W i=false:=by unfold wi; rw[hin,h3]; rfl
   rw[hw];have key:kX n es x W ((i:Int),p,p.length)=some (.inl (((i+1:Nat):Int),p,p.length)):=by
    unfold kX
    dsimp only
    rw[bB (by omega),aw hi,aD,Int.toNat_natCast,g1,ah]
    dsimp only
    rw[ko n x a b hx ha g4,ah,h3,bK,ah]
    dsimp only
    rw[w1]
   rw[aU key];exact ih (i+1) m p r E (by omega) (by omega) hp hr
theorem GQ (n:Nat) (p:List Int):ES n p.length p=jW n p:=rfl
theorem FM (n:Nat) (p:List Int):CJ n p.length p=jW n p:=rfl
theorem ED (n:Nat) (p:List Int):Ca n p.length p=jW n p:=rfl
theorem Ea (n:Nat) (p:List Int) (z:List (Int × Int)):∀m v,bG (xr n p.length p) m (v,z)=(bG (jW n p) m v).map fun v=>(v,z):=by
 intro m
 induction m with
 | zero=>intro v; rfl
 | succ m ih =>
  intro v;have st:xr n p.length p (v,z)=(jW n p v).map fun x=>match x with | .inl v=>.inl (v,z) | .inr v=>.inr (v,z):=by
   unfold xr jW
   dsimp only
   cases bE v p.length
   ·rfl
   ·rw[aD,aD];cases p[v.toNat]? with
    | none=>rfl
    | some y =>
     rw[ah,ah];cases(!decide (y=v))<;>rfl
  unfold bG;rw[st];cases jW n p v with
  | none=>rfl
  | some x =>
   cases x with
   | inl v=>exact ih v
   | inr v=>rfl
def J7 (x:Nat) (r:Nat→Nat) (g:Nat) (v:Nat):Bool:=x.testBit v && r v == v && v != g
def sF (x:Nat) (r:Nat→Nat) (g i:Nat):List Nat:=(List.range i).filter (J7 x r g)
theorem Eu (x:Nat) (r:Nat→Nat) (g i:Nat):sF x r g (i+1)=if J7 x r g i then sF x r g i++[i] else sF x r g i:=by
 unfold sF;rw[List.range_succ,List.filter_append,List.filter_cons]
 split<;>simp
theorem Ms {x:Nat} {r:Nat→Nat} {g i v:Nat} (h:v ∈ sF x r g i):v<i:=by
 unfold sF at h;rw[List.mem_filter,List.mem_range] at h;exact h.1
def PV (x:Nat) (r:Nat→Nat) (g i:Nat) (T:List (Int × Int)):Prop :=
 T.length=(sF x r g i).length∧∀v:Nat,bZ T (v:Int)=if v ∈ sF x r g i then some (((sF x r g i).idxOf v:Nat):Int) else none
theorem D7 {n x:Nat} (hx:x<2 ^ 64) (hn:64<n) {p:List Int} {r:Nat→Nat} (hp:Fst p r) (g:Nat):∃T,bG (pD n x p.length p (g:Int)) n (([]:List (Int × Int)),0)=some T∧PV x r g 64 T:=by
 refine gE (body:=pD n x p.length p (g:Int)) 64 (fun(s:List (Int × Int)) (v:Int)=>(s,v)) id (fun i s=>PV x r g i s) (fun T i hi hI=>?_) (fun T _=>?_) (n:=n) ⟨rfl,fun v=>by simp[sF,bZ,bY]⟩ hn
 ·have key:pD n x p.length p (g:Int) (T,(i:Int))=some (.inl (if J7 x r g i then dS T (i:Int) ((T.length:Nat):Int) else T,((i+1:Nat):Int))):=by
   unfold pD
   dsimp only
   rw[bB (by omega),cM (by omega),Int.toNat_natCast,jH hx (by omega),GQ,hp.root n i n hi (by omega),aH (by omega)]
   unfold J7;cases x.testBit i
   ·rfl
   ·rw[bI,ah,ah]
    by_cases h1:r i=i
    ·rw[bB (by omega),ah]
     by_cases h2:i=g
     ·rw[decide_eq_true (by omega)]; simp[h1,h2,ob,br]
     ·rw[decide_eq_false (by omega)]; simp[h1,h2,ob,br]
    ·rw[bf (by omega),ah]; simp[h1,ob,br]
  refine⟨_,key,?_⟩;obtain⟨hl,hg⟩:=hI;have hni:i ∉ sF x r g i:=fun h=>Nat.lt_irrefl _ (Ms h);unfold PV;rw[Eu]
  by_cases hP:J7 x r g i=true
  ·rw[if_pos hP,if_pos hP];have hnone:bZ T (i:Int)=none:=by rw[hg,if_neg hni]
   refine⟨by rw[EA _ _ _ hnone,hl,List.length_append]; rfl,fun v=>?_⟩
   rw[oo,hg,hl]
   by_cases hv:v=i
   ·subst hv;rw[if_pos rfl,if_pos (by simp),List.idxOf_append,if_neg hni]; simp
   ·rw[if_neg (by omega)]
    by_cases hm:v ∈ sF x r g i
    ·rw[if_pos hm,if_pos (by simp[hm]),List.idxOf_append,if_pos hm]
    ·rw[if_neg hm,if_neg (by simp[hm,hv])]
  ·rw[if_neg hP,if_neg hP];exact⟨hl,hg⟩
 ·unfold pD
  dsimp only
  rw[bf (by decide)]; rfl
theorem Er {n s:Nat} (hs:s≤64) (hn:64<n) (T:List (Int × Int)) (hT:T.length=s):∃L,bG (qH n s T) n ((List.replicate s ([]:List (Bool × List Nat))),0)=some L∧uy s L fun _ _=>0:=by
 have:=gE (body:=qH n s T) s (fun(l:List (List (Bool × List Nat))) (v:Int)=>(l,v)) id (fun i l=>l.length=s∧∀v,v<i→l[v]? = some (List.replicate s (false,[]))) (fun l i hi hI=>?_) (fun l _=>?_) (n:=n) (s:=List.replicate s []) ⟨by simp,fun v hv=>absurd hv (Nat.not_lt_zero _)⟩ (by omega)
 ·obtain⟨L,h1,h2,h3⟩:=this;refine⟨L,h1,h2,fun r hr=>⟨_,h3 r hr,by simp,fun c hc=>⟨false,[],by rw[List.getElem?_replicate,if_pos hc],Lg.zero⟩⟩⟩
 ·refine⟨l.set i (List.replicate s (false,[])),?_,by rw[List.length_set]; exact hI.1,fun v hv=>?_⟩
  ·unfold qH
   dsimp only
   have e3:l[i]? = some (l[i]'(by rw[hI.1]; exact hi)):=List.getElem?_eq_getElem _
   rw[bB (by omega),ah,hT,cM (by omega),Int.toNat_natCast,ga (by omega),aD,aw hi,aD,Int.toNat_natCast,e3,ah,cM (by omega),aH (by omega)]
  ·by_cases hvi:v=i
   ·subst hvi; rw[List.getElem?_set_self (by rw[hI.1]; exact hi)]
   ·rw[List.getElem?_set_ne (fun e=>hvi e.symm)]; exact hI.2 v (by omega)
 ·unfold qH
  dsimp only
  rw[bf (by omega)]; rfl
end Go.Proofs.YtookeaakpiefjaaDoor
end
