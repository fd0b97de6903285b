/- A part of the proof. -/
import Derived.Test.YtookeaakpiefjaaDoorTk6
import Derived.Lib.Mul64
section
namespace Go.Ab.T30
def dl (ρ:Nat→Nat) (e:Nat × Nat) (i:Nat):Int:=(if i=ρ e.1 then 1 else 0)-(if i=ρ e.2 then 1 else 0)
def iz (ρ:Nat→Nat):List (Nat × Nat)→Mt
 | [],_,_=>0
 | e::E,i,j=>dl ρ e i*dl ρ e j+iz ρ E i j
def rA (ρ:Nat→Nat):Mt:=fun i j=>if ρ i=i then 0 else if i=j then 1 else 0
def jB (ρ:Nat→Nat) (E:List (Nat × Nat)):Mt:=fun i j=>rA ρ i j+iz ρ E i j
def mg (ρ:Nat→Nat) (u v:Nat):Nat→Nat:=fun i=>if ρ i=u then v else ρ i
def oQ (s:Nat):(Nat→Nat)→List (Nat × Nat)→Nat
 | ρ,[]=>if (List.range s).all (fun i=>ρ i != i) then 1 else 0
 | ρ,(a,b)::E=>oQ s ρ E+if ρ a=ρ b then 0 else oQ s (if ρ a=s then mg ρ (ρ b) (ρ a) else mg ρ (ρ a) (ρ b)) E
def wv (u v:Nat):Nat→Int:=fun c=>(if c=u then 1 else 0)-(if c=v then 1 else 0)
section
variable {s : Nat} {ρ : Nat → Nat} {E : List (Nat × Nat)} {u v : Nat}
theorem zf (hi:∀i,ρ (ρ i)=ρ i) (hv:ρ v=v) (huv:u≠v) (i:Nat):mg ρ u v (mg ρ u v i)=mg ρ u v i:=by
 unfold mg
 by_cases h:ρ i=u
 ·rw[if_pos h,hv,if_neg (fun e=>huv e.symm)]
 ·rw[if_neg h,hi,if_neg h]
theorem wE (hr:∃i,i<s∧ρ i=i):cA s (jB ρ [])=0:=by
 obtain⟨i,h1,h2⟩:=hr;refine DK h1 fun c _=>?_;simp only[jB,iz,rA];rw[if_pos h2]; rfl
theorem vy (hr:∀i,i<s→ρ i≠i):cA s (jB ρ [])=1:=by
 refine uu fun r c h1 _=>?_;simp only[jB,iz,rA];rw[if_neg (hr r h1),Int.add_zero]
theorem J7 (i:Nat) (hiu:i≠u) (hiv:ρ v=v) (huv:u≠v) (a:Nat):(if i=mg ρ u v a then(1:Int) else 0)=(if i=ρ a then 1 else 0)+(if i=v then(if u=ρ a then 1 else 0) else 0):=by
 unfold mg
 by_cases h:ρ a=u
 ·rw[if_pos h,h,if_neg hiu,if_pos rfl,Int.zero_add]
 ·rw[if_neg h];have:¬u=ρ a:=fun e=>h e.symm;rw[if_neg this]
  split<;>split<;>rfl
theorem Jf (huv:u≠v) (a:Nat):(if u=mg ρ u v a then(1:Int) else 0)=0:=by
 unfold mg
 by_cases h:ρ a=u
 ·rw[if_pos h,if_neg huv]
 ·rw[if_neg h,if_neg (fun e=>h e.symm)]
theorem GB (hiv:ρ v=v) (huv:u≠v) {i:Nat} (hiu:i≠u) (e:Nat × Nat):dl (mg ρ u v) e i=dl ρ e i+(if i=v then dl ρ e u else 0):=by
 unfold dl;rw[J7 i hiu hiv huv,J7 i hiu hiv huv]
 split<;>omega
theorem za (huv:u≠v) (e:Nat × Nat):dl (mg ρ u v) e u=0:=by
 unfold dl;rw[Jf huv,Jf huv]; rfl
theorem By (huv:u≠v) (i:Nat):∀E,iz (mg ρ u v) E i u=0
 | []=>rfl
 | e::E=>by
  simp only[iz];rw[za huv,Int.mul_zero,By huv i E]; rfl
theorem Bi (huv:u≠v) (i:Nat):∀E,iz (mg ρ u v) E u i=0
 | []=>rfl
 | e::E=>by
  simp only[iz];rw[za huv,Int.zero_mul,Bi huv i E]; rfl
theorem Dc (hiv:ρ v=v) (huv:u≠v) {i c:Nat} (hiu:i≠u) (hcu:c≠u):∀E,iz (mg ρ u v) E i c=iz ρ E i c+(if i=v then iz ρ E u c else 0)+(if c=v then iz ρ E i u+(if i=v then iz ρ E u u else 0) else 0)
 | []=>by simp only[iz]; split<;>split<;>rfl
 | e::E=>by
  simp only[iz];rw[Dc hiv huv hiu hcu E,GB hiv huv hiu,GB hiv huv hcu];generalize dl ρ e i=p;generalize dl ρ e c=q;generalize dl ρ e u=r
  by_cases h1:i=v<;>by_cases h2:c=v
  ·simp only[if_pos h1,if_pos h2];rw[Int.mul_add,Int.add_mul,Int.add_mul]; omega
  ·simp only[if_pos h1,if_neg h2,Int.add_zero];rw[Int.add_mul]; omega
  ·simp only[if_neg h1,if_pos h2,Int.add_zero];rw[Int.mul_add]; omega
  ·simp only[if_neg h1,if_neg h2,Int.add_zero]
theorem wN (hi:∀i,ρ (ρ i)=ρ i) (hiv:ρ v=v) (huv:u≠v) {i c:Nat} (hiu:i≠u):rA (mg ρ u v) i c=rA ρ i c:=by
 unfold rA mg
 by_cases h:ρ i=i
 ·rw[if_pos h,h,if_neg hiu,if_pos rfl]
 ·rw[if_neg h]
  by_cases h2:ρ i=u
  ·rw[if_pos h2];have:¬v=i:=fun e=>h (by rw[←e]; exact hiv)
   rw[if_neg this]
  ·rw[if_neg h2,if_neg h]
theorem DN (hi:∀i,ρ (ρ i)=ρ i) (hus:u<s) (hu:ρ u=u) (hv:ρ v=v) (huv:u≠v) (hvs:v≤s) :
  cA s (fun i j=>jB ρ E i j+wv u v i*wv u v j)=cA s (jB ρ E)+cA s (jB (mg ρ u v) E):=by
 have hwu:wv u v u=1:=by simp only[wv]; rw[if_pos trivial,if_neg huv]; rfl
 have hwi:∀i,i≠u→i≠v→wv u v i=0:=fun i h1 h2=>by simp only[wv]; rw[if_neg h1,if_neg h2]; rfl
 have hwv:wv u v v = -1:=by simp only[wv]; rw[if_neg (fun e=>huv e.symm),if_pos trivial]; rfl
 let R:Mt:=fun i c=>if i=v then jB ρ E v c+1*jB ρ E u c else jB ρ E i c
 have hRu:∀c,R u c=jB ρ E u c:=fun c=>if_neg huv;have hR:cA s R=cA s (jB ρ E):=by
  by_cases h:v<s
  ·have:=s6 (n:=s) (A:=jB ρ E) (r:=v) (k:=u) 1 h hus (fun e=>huv e.symm);rw[←this];refine bB fun r c _ _=>?_
   show(if r=v then _ else _)=upd (jB ρ E) v _ r c
   rfl
  ·refine bB fun r c hr _=>?_;exact if_neg (by omega)
 have hB:cA s (fun i j=>jB ρ E i j+wv u v i*wv u v j)=cA s (upd R u fun c=>1*jB ρ E u c+1*wv u v c):=by
  by_cases h:v<s
  ·have:=s6 (n:=s) (A:=fun i j=>jB ρ E i j+wv u v i*wv u v j) (r:=v) (k:=u) 1 h hus (fun e=>huv e.symm);rw[←this];refine bB fun r c _ _=>?_;simp only[upd,R]
   by_cases h1:r=v
   ·rw[if_pos h1,if_neg (by omega),if_pos h1,hwu,hwv]; omega
   ·rw[if_neg h1]
    by_cases h2:r=u
    ·subst h2; rw[if_pos rfl,hwu]; omega
    ·rw[if_neg h2,if_neg h1,hwi r h2 h1,Int.zero_mul,Int.add_zero]
  ·refine bB fun r c hr _=>?_;simp only[upd,R]
   by_cases h2:r=u
   ·subst h2; rw[if_pos rfl,hwu]; omega
   ·rw[if_neg h2,if_neg (by omega),hwi r h2 (by omega),Int.zero_mul,Int.add_zero]
 have hL:cA s (upd R u (jB ρ E u))=cA s (jB ρ E):=by
  rw[←hR];refine bB fun r c _ _=>?_;simp only[upd]
  split
  ·rename_i h; rw[h]; exact(hRu c).symm
  ·rfl
 rw[hB,iW 1 1 _ _ hus,Int.one_mul,Int.one_mul,hL]
 congr 1
 have h1:=AB (n:=s) (u:=u) (A:=upd R u (wv u v)) hus fun i=>- R i u;rw[←h1];have hC:cA s (fun i c=>if i=u then upd R u (wv u v) u c else upd R u (wv u v) i c + - R i u*upd R u (wv u v) u c)=cA s (upd (jB (mg ρ u v) E) u fun c=>1*(if c=u then 1 else 0)+(-1)*(if c=v then 1 else 0)):=by
  refine bB fun r c hr hc=>?_;simp only[upd]
  by_cases h2:r=u
  ·rw[if_pos h2,if_pos trivial,if_pos h2];simp only[wv]; omega
  ·rw[if_neg h2,if_neg h2,if_pos trivial,if_neg h2]
   by_cases h3:c=u
   ·subst h3;rw[hwu];have:jB (mg ρ c v) E r c=0:=by
     simp only[jB];rw[By huv,wN hi hv huv h2];unfold rA;rw[if_neg h2]; split<;>rfl
    rw[this]; omega
   ·have e1:wv u v c = - (if c=v then 1 else 0):=by simp only[wv]; rw[if_neg h3]; omega
    rw[e1];simp only[jB];rw[Dc hv huv h2 h3,wN hi hv huv h2];have d1:rA ρ u c=0:=by unfold rA; rw[if_pos hu]
    have d2:rA ρ r u=0:=by unfold rA; rw[if_neg h2]; split<;>rfl
    have d3:rA ρ u u=0:=by unfold rA; rw[if_pos hu]
    have d4:rA ρ v u=0:=by unfold rA; rw[if_pos hv]
    simp only[R,jB]
    by_cases h4:r=v<;>by_cases h5:c=v
    ·simp only[if_pos h4,if_pos h5];rw[d1,d3,d4,h4]; omega
    ·simp only[if_pos h4,if_neg h5];rw[d1,d3,d4,h4]; omega
    ·simp only[if_neg h4,if_pos h5];rw[d2]; omega
    ·simp only[if_neg h4,if_neg h5];omega
 rw[hC,iW 1 (-1) _ _ hus,Dg (c:=u) (A:=upd (jB (mg ρ u v) E) u fun c=>if c=v then 1 else 0) hus fun r hr=>?_,Int.one_mul,Int.mul_zero,Int.add_zero]
 ·refine bB fun r c hr _=>?_;simp only[upd]
  split
  ·rename_i h;subst h;have:mg ρ r v r=v:=by unfold mg; rw[if_pos hu]
   have hd:rA (mg ρ r v) r c=if r=c then 1 else 0:=by unfold rA; rw[this,if_neg (fun e=>huv e.symm)]
   simp only[jB];rw[Bi huv,hd,Int.add_zero]
   by_cases h2:c=r
   ·rw[if_pos h2,if_pos h2.symm]
   ·rw[if_neg h2,if_neg (fun e=>h2 e.symm)]
  ·rfl
 ·simp only[upd]
  by_cases h2:r=u
  ·rw[if_pos h2,if_neg huv]
  ·rw[if_neg h2];simp only[jB];rw[By huv,wN hi hv huv h2];unfold rA;rw[if_neg h2]; split<;>rfl
theorem oN:∀(E:List (Nat × Nat)) (ρ:Nat→Nat),(∀i,ρ (ρ i)=ρ i)→ρ s=s→(∀e ∈ E,ρ e.1≤s∧ρ e.2≤s)→cA s (jB ρ E)=(oQ s ρ E:Int)
 | [],ρ,_,_,_=>by
  unfold oQ
  by_cases h:∃i,i<s∧ρ i=i
  ·rw[wE h,if_neg]
   ·rfl
   ·rw[List.all_eq_true];intro g;obtain⟨i,h1,h2⟩:=h;have:=g i (List.mem_range.2 h1);simp[h2] at this
  ·rw[vy fun i h1 h2=>h ⟨i,h1,h2⟩,if_pos]
   ·rfl
   ·rw[List.all_eq_true];intro i hi;simp only[bne_iff_ne,ne_eq];exact fun e=>h ⟨i,List.mem_range.1 hi,e⟩
 | (a,b)::E,ρ,hi,hs,hE=>by
  have hab:=hE (a,b) (by simp)
  have hE':∀e ∈ E,ρ e.1≤s∧ρ e.2≤s:=fun e he=>hE e (by simp[he])
  have ih:=oN E ρ hi hs hE';unfold oQ
  by_cases h:ρ a=ρ b
  ·rw[if_pos h,Nat.add_zero,←ih];refine bB fun i j _ _=>?_;simp only[jB,iz,dl];rw[h,Int.sub_self,Int.zero_mul,Int.zero_add]
  ·rw[if_neg h];have go:∀u v,u≤s→v≤s→u≠s→u≠v→ρ u=u→ρ v=v→(∀i j,dl ρ (a,b) i*dl ρ (a,b) j=wv u v i*wv u v j)→cA s (jB ρ ((a,b)::E))=((oQ s ρ E+oQ s (mg ρ u v) E:Nat):Int):=fun u v h1 h2 h3 h4 h5 h6 h7=>by
    have e1:cA s (jB ρ ((a,b)::E))=cA s (fun i j=>jB ρ E i j+wv u v i*wv u v j):=bB fun i j _ _=>by
     simp only[jB,iz];rw[h7]; omega
    have hus:u<s:=by omega
    have ih2:=oN E (mg ρ u v) (zf hi h6 h4) (by unfold mg; rw[hs,if_neg (fun e=>h3 e.symm)]) fun e he=>by
     have:=hE' e he;unfold mg;refine⟨?_,?_⟩
     ·split
      ·exact h2
      ·exact this.1
     ·split
      ·exact h2
      ·exact this.2
    rw[e1,DN hi hus h5 h6 h4 h2,ih,ih2];omega
   by_cases h8:ρ a=s
   ·rw[if_pos h8];refine go (ρ b) (ρ a) hab.2 hab.1 (fun e=>h (by rw[h8,e])) (fun e=>h e.symm) (hi b) (hi a) fun i j=>?_
    simp only[dl,wv];generalize (if i=ρ a then(1:Int) else 0)=p
    generalize (if i=ρ b then(1:Int) else 0)=q
    generalize (if j=ρ a then(1:Int) else 0)=p'
    generalize (if j=ρ b then(1:Int) else 0)=q'
    rw[show p-q = -(q-p) by omega,show p'-q' = -(q'-p') by omega,Int.neg_mul_neg]
   ·rw[if_neg h8];exact go (ρ a) (ρ b) hab.1 hab.2 h8 h (hi a) (hi b) fun i j=>rfl
end
def jv (A:Mt) (k r c:Nat):Mt:=fun i j=>A (if i<k then i else r) (if j<k then j else c)
theorem B7 (A:Mt) (k:Nat):cA (k+1) (jv A k k k)=cA (k+1) A:=bB fun i j hi hj=>by
 simp only[jv];have h1:(if i<k then i else k)=i:=by split<;>omega
 have h2:(if j<k then j else k)=j:=by split<;>omega
 rw[h1,h2]
def KG (A:Mt) (s k r:Nat) (m:Int) (Y:Nat→Int):Prop:=∃(Q:Int) (γ:Nat→Int),Q≠0∧∀c,c<s→Q*(if c<k then 0 else Y c)=(Q*m)*A r c+sm k fun i=>γ i*A i c
theorem KG.minor {A:Mt} {s k r c:Nat} {m:Int} {Y:Nat→Int} (h:KG A s k r m Y) (hk:k≤c) (hc:c<s):m*cA (k+1) (jv A k r c)=cA k A*Y c:=by
 obtain⟨Q,γ,hQ,h⟩:=h;have h1:=CZ (n:=k+1) (r:=k) (A:=jv A k r c) (by omega) (Q*m) γ (jv A k r c k) k (by omega) (fun i hi=>by omega)
 rw[lX] at h1;have hrow:∀j,j<k+1→(Q*m)*jv A k r c k j+sm k (fun i=>γ i*jv A k r c i j)=Q*(if j<k then 0 else Y c):=fun j hj=>by
  have e:sm k (fun i=>γ i*jv A k r c i j)=sm k fun i=>γ i*A i (if j<k then j else c):=gL fun i hi=>by
   simp only[jv]; rw[if_pos hi]
  rw[e];have:=h (if j<k then j else c) (by split<;>omega)
  simp only[jv];rw[if_neg (show ¬k<k by omega),←this]
  by_cases hj2:j<k
  ·simp only[if_pos hj2]
  ·simp only[if_neg hj2];rw[if_neg (by omega)]
 rw[ve (n:=k) (fun j hj=>by
  simp only[upd];rw[if_pos trivial,hrow j (by omega),if_pos hj,Int.mul_zero])] at h1
 have h2:cA k (upd (jv A k r c) k fun j=>(Q*m)*jv A k r c k j+sm k fun i=>γ i*jv A k r c i j)=cA k A:=bB fun i j hi hj=>by
  simp only[upd,jv];rw[if_neg (by omega),if_pos hi,if_pos hj]
 have h3:(upd (jv A k r c) k fun j=>(Q*m)*jv A k r c k j+sm k fun i=>γ i*jv A k r c i j) k k=Q*Y c:=by
  simp only[upd];rw[if_pos trivial,hrow k (by omega),if_neg (by omega)]
 rw[h2,h3,Int.mul_assoc] at h1;have:Q*(cA k A*Y c)=Q*(m*cA (k+1) (jv A k r c)):=by rw[←h1,Int.mul_left_comm]
 exact(Int.eq_of_mul_eq_mul_left hQ this).symm
def Ar (M:Mt) (k:Nat) (p:Int):Mt:=fun r c=>if k<r∧k≤c then(M r c*M k k-M r k*M k c)/p else M r c
structure Bar (A:Mt) (s k:Nat) (M:Mt) (p:Int):Prop where
 p0:p≠0
 pe:p=cA k A
 row:∀r,k≤r→r<s→KG A s k r p (M r)
theorem Bar.start (A:Mt) (s:Nat):Bar A s 0 A 1:=⟨by decide,rfl,fun r _ _=>⟨1,fun _=>0,by decide,fun c _=>by simp[sm]⟩⟩
theorem Bar.minor {A:Mt} {s k:Nat} {M:Mt} {p:Int} (h:Bar A s k M p) {r c:Nat} (hr:k≤r) (hrs:r<s) (hc:k≤c) (hcs:c<s):M r c=cA (k+1) (jv A k r c):=by
 have h1:=(h.row r hr hrs).minor hc hcs;rw[←h.pe] at h1;exact(Int.eq_of_mul_eq_mul_left h.p0 h1).symm
theorem Bar.DW {A:Mt} {s k:Nat} {M:Mt} {p:Int} (h:Bar A s k M p) (hk:k<s):M k k=cA (k+1) A:=by
 rw[h.minor (Nat.le_refl k) hk (Nat.le_refl k) hk,B7]
theorem Bar.Ma {A:Mt} {s k:Nat} {M:Mt} {p:Int} (h:Bar A s k M p) (hk:k<s) {r:Nat} (hr:k<r) (hrs:r<s):KG A s (k+1) r (p*M k k) fun c=>M r c*M k k-M r k*M k c:=by
 obtain⟨Q1,γ1,hQ1,h1⟩:=h.row r (by omega) hrs
 obtain⟨Q2,γ2,hQ2,h2⟩:=h.row k (Nat.le_refl k) hk;refine⟨Q1*Q2,fun i=>if i<k then(M k k*Q2)*γ1 i+(-(M r k*Q1))*γ2 i else -(M r k*Q1*Q2*p),fun e=>by rcases Int.mul_eq_zero.1 e with e|e; exact hQ1 e; exact hQ2 e,fun c hc=>?_⟩
 have g1:=h1 c hc;have g2:=h2 c hc;have e1:sm (k+1) (fun i=>(if i<k then(M k k*Q2)*γ1 i+(-(M r k*Q1))*γ2 i else -(M r k*Q1*Q2*p))*A i c)=(M k k*Q2)*sm k (fun i=>γ1 i*A i c)+(-(M r k*Q1))*sm k (fun i=>γ2 i*A i c) + -(M r k*Q1*Q2*p)*A k c:=by
  simp only[sm];rw[if_neg (by omega),←tj]
  congr 1
  refine gL fun i hi=>?_;rw[if_pos hi,Int.add_mul,Int.mul_assoc,Int.mul_assoc (-(M r k*Q1))]
 rw[e1];have e2:(if c<k+1 then(0:Int) else M r c*M k k-M r k*M k c)=M k k*(if c<k then 0 else M r c)-M r k*(if c<k then 0 else M k c):=by
  by_cases h3:c<k
  ·rw[if_pos (by omega),if_pos h3,if_pos h3]; simp
  ·rw[if_neg h3,if_neg h3]
   by_cases h4:c=k
   ·subst h4;rw[if_pos (by omega),Int.mul_comm]; omega
   ·rw[if_neg (by omega),Int.mul_comm (M r c)]
 rw[e2];generalize (if c<k then(0:Int) else M r c)=x at g1
 generalize (if c<k then(0:Int) else M k c)=y at g2
 generalize sm k (fun i=>γ1 i*A i c)=S1 at g1;generalize sm k (fun i=>γ2 i*A i c)=S2 at g2;have k1:S1=Q1*x-Q1*p*A r c:=by omega
 have k2:S2=Q2*y-Q2*p*A k c:=by omega
 rw[k1,k2];generalize A r c=a;generalize A k c=b;generalize M k k=q;generalize M r k=t;clear g1 g2 k1 k2 e1 e2 h1 h2
 grind
theorem Bar.exact {A:Mt} {s k:Nat} {M:Mt} {p:Int} (h:Bar A s k M p) (hk:k<s) (hp:M k k≠0) {r c:Nat} (hr:k<r) (hrs:r<s) (hc:k≤c) (hcs:c<s):M r c*M k k-M r k*M k c=p*Ar M k p r c:=by
 simp only[Ar];rw[if_pos ⟨hr,hc⟩];have hd:p∣M r c*M k k-M r k*M k c:=by
  by_cases e:c=k
  ·subst e;rw[Int.mul_comm];exact⟨0,by omega⟩
  ·have h1:=(h.Ma hk hr hrs).minor (c:=c) (by omega) hcs
   rw[←h.DW hk] at h1;refine⟨cA (k+1+1) (jv A (k+1) r c),?_⟩;have:M k k*(M r c*M k k-M r k*M k c)=M k k*(p*cA (k+1+1) (jv A (k+1) r c)):=by
    rw[←h1];generalize cA (k+1+1) (jv A (k+1) r c)=d;rw[Int.mul_comm p,Int.mul_assoc]
   exact Int.eq_of_mul_eq_mul_left hp this
 exact(Int.mul_ediv_cancel' hd).symm
theorem Bar.step {A:Mt} {s k:Nat} {M:Mt} {p:Int} (h:Bar A s k M p) (hk:k<s) (hp:M k k≠0):Bar A s (k+1) (Ar M k p) (M k k):=by
 refine⟨hp,h.DW hk,fun r hr hrs=>?_⟩;obtain⟨Q,γ,hQ,h1⟩:=h.Ma hk (show k<r by omega) hrs
 refine⟨Q*p,γ,fun e=>by rcases Int.mul_eq_zero.1 e with e|e; exact hQ e; exact h.p0 e,fun c hc=>?_⟩
 have h2:=h1 c hc;rw[Int.mul_assoc Q p (M k k),←h2,Int.mul_assoc Q p]
 by_cases h3:c<k+1
 ·rw[if_pos h3,if_pos h3,Int.mul_zero,Int.mul_zero]
 ·rw[if_neg h3,if_neg h3,←h.exact hk hp (show k<r by omega) hrs (by omega) hc]
def Gc:Nat→Nat→Mt→Int→Int
 | 0,_,_,p=>p
 | j+1,k,M,p=>if M k k=0 then 0 else Gc j (k+1) (Ar M k p) (M k k)
theorem yK {A:Mt} {s:Nat} (hA:∀k,k<s→cA (k+1) A=0→cA s A=0):∀(j k:Nat) (M:Mt) (p:Int),j+k=s→Bar A s k M p→Gc j k M p=cA s A
 | 0,k,M,p,hj,h=>by
  have:k=s:=by omega
  subst this;exact h.pe
 | j+1,k,M,p,hj,h=>by
  simp only[Gc];have hk:k<s:=by omega
  by_cases h0:M k k=0
  ·rw[if_pos h0];have:=h.DW hk;rw[h0] at this;exact(hA k hk this.symm).symm
  ·rw[if_neg h0];exact yK hA j (k+1) _ _ (by omega) (h.step hk h0)
def BH (s:Nat) (ρ:Nat→Nat) (E:List (Nat × Nat)):Prop :=
 ∀f:Nat→Bool,(∀i,f i=f (ρ i))→(∀e ∈ E,f e.1=f e.2)→∀i,i≤s→f i=f s
structure Rho (s:Nat) (ρ:Nat→Nat):Prop where
 idem:∀i,ρ (ρ i)=ρ i
 top:ρ s=s
 le:∀i,i≤s→ρ i≤s
theorem Rho.id (s:Nat):Rho s fun i=>i:=⟨fun _=>rfl,rfl,fun _ h=>h⟩
theorem Rho.step {s:Nat} {ρ:Nat→Nat} (h:Rho s ρ) {a b:Nat} (ha:a≤s) (hb:b≤s) (hab:ρ a≠ρ b):Rho s (if ρ a=s then mg ρ (ρ b) (ρ a) else mg ρ (ρ a) (ρ b)):=by
 have key:∀u v,ρ u=u→ρ v=v→u≠v→u≠s→v≤s→Rho s (mg ρ u v):=fun u v hu hv huv hus hvs=>by
  refine⟨zf h.idem hv huv,?_,fun i hi=>?_⟩
  ·unfold T30.mg; rw[h.top,if_neg (fun e=>hus e.symm)]
  ·unfold T30.mg
   split
   ·exact hvs
   ·exact h.le i hi
 by_cases hs:ρ a=s
 ·rw[if_pos hs];exact key _ _ (h.idem b) (h.idem a) (fun e=>hab e.symm) (fun e=>hab (by rw[hs,e])) (h.le a ha)
 ·rw[if_neg hs];exact key _ _ (h.idem a) (h.idem b) hab hs (h.le b hb)
theorem uW {ρ:Nat→Nat} {u v:Nat} (hu:ρ u=u) (hv:ρ v=v) (f:Nat→Bool):(∀i,f i=f (mg ρ u v i))↔(∀i,f i=f (ρ i))∧f u=f v:=by
 constructor
 ·intro h;have huv:f u=f v:=by have:=h u; unfold mg at this; rwa[if_pos hu] at this
  refine⟨fun i=>?_,huv⟩;have:=h i;unfold mg at this
  by_cases hi:ρ i=u
  ·rw[if_pos hi] at this; rw[this,hi,huv]
  ·rwa[if_neg hi] at this
 ·rintro⟨h,huv⟩ i;unfold mg
  by_cases hi:ρ i=u
  ·rw[if_pos hi,h i,hi,huv]
  ·rw[if_neg hi]; exact h i
theorem oG (s:Nat):∀(E:List (Nat × Nat)) (ρ:Nat→Nat),Rho s ρ→(∀e ∈ E,e.1≤s∧e.2≤s)→(0<oQ s ρ E↔BH s ρ E)
 | [],ρ,h,_=>by
  simp only[oQ];constructor
  ·intro h0;have hall:∀i,i<s→ρ i≠i:=fun i hi=>by
    by_cases hc:(List.range s).all (fun i=>ρ i != i)=true
    ·simpa using List.all_eq_true.1 hc i (List.mem_range.2 hi)
    ·rw[if_neg hc] at h0; omega
   intro f hf _ i hi;have h1:=h.le i hi;have h2:ρ i=s:=by
    by_cases h3:ρ i<s
    ·exact absurd (h.idem i) (hall _ h3)
    ·omega
   rw[hf i,h2]
  ·intro hu;have:(List.range s).all (fun i=>ρ i != i)=true:=by
    refine List.all_eq_true.2 fun i hi=>?_;have hi:=List.mem_range.1 hi
    by_cases hr:ρ i=i
    ·have h1:=hu (fun j=>ρ j == i) (fun j=>by simp[h.idem]) (fun e he=>nomatch he) i (Nat.le_of_lt hi)
     simp only[hr,h.top,beq_self_eq_true] at h1;have:s=i:=by simpa using h1.symm
     omega
    ·simpa using hr
   rw[if_pos this]; exact Nat.one_pos
 | (a,b)::E,ρ,h,hE=>by
  have ha:a≤s:=(hE (a,b) List.mem_cons_self).1;have hb:b≤s:=(hE (a,b) List.mem_cons_self).2;have hE':∀e ∈ E,e.1≤s∧e.2≤s:=fun e he=>hE e (List.mem_cons_of_mem _ he);have ih:=oG s E ρ h hE';simp only[oQ]
  by_cases hab:ρ a=ρ b
  ·rw[if_pos hab,Nat.add_zero,ih];refine⟨fun hu f hf he i hi=>hu f hf (fun e h1=>he e (List.mem_cons_of_mem _ h1)) i hi,fun hu f hf he i hi=>hu f hf (fun e h1=>?_) i hi⟩;rcases List.mem_cons.1 h1 with rfl|h1
   ·show f a=f b
    rw[hf a,hf b,hab]
   ·exact he e h1
  ·rw[if_neg hab];have hR:=h.step ha hb hab;have ih2:=oG s E _ hR hE';have conn:∀f:Nat→Bool,(∀i,f i=f ((if ρ a=s then mg ρ (ρ b) (ρ a) else mg ρ (ρ a) (ρ b)) i))↔(∀i,f i=f (ρ i))∧f a=f b:=fun f=>by
    by_cases hs:ρ a=s
    ·simp only[if_pos hs];rw[uW (h.idem b) (h.idem a)];refine⟨fun g=>⟨g.1,by rw[g.1 a,g.1 b,g.2]⟩,fun g=>⟨g.1,by rw[←g.1 a,←g.1 b,g.2]⟩⟩
    ·simp only[if_neg hs];rw[uW (h.idem a) (h.idem b)];refine⟨fun g=>⟨g.1,by rw[g.1 a,g.1 b,g.2]⟩,fun g=>⟨g.1,by rw[←g.1 a,←g.1 b,g.2]⟩⟩
   have e2:BH s (if ρ a=s then mg ρ (ρ b) (ρ a) else mg ρ (ρ a) (ρ b)) E↔BH s ρ ((a,b)::E):=by
    refine⟨fun hu f hf he i hi=>hu f ((conn f).2 ⟨hf,he (a,b) List.mem_cons_self⟩) (fun e h1=>he e (List.mem_cons_of_mem _ h1)) i hi,fun hu f hf he i hi=>?_⟩;obtain⟨g1,g2⟩:=(conn f).1 hf;refine hu f g1 (fun e h1=>?_) i hi;rcases List.mem_cons.1 h1 with rfl|h1
    ·exact g2
    ·exact he e h1
   rw[←e2,←ih2];constructor
   ·intro h0
    by_cases h1:0<oQ s ρ E
    ·refine ih2.2 (e2.2 fun f hf he i hi=>ih.1 h1 f hf (fun e h2=>he e (List.mem_cons_of_mem _ h2)) i hi)
    ·omega
   ·intro h0; omega
def uo (k i:Nat):Nat:=if i<k then i else k
def iD (φ:Nat→Nat) (E:List (Nat × Nat)):List (Nat × Nat):=E.map fun e=>(φ e.1,φ e.2)
theorem tE (φ:Nat→Nat) (i j:Nat):∀E,iz φ E i j=jB (fun i=>i) (iD φ E) i j
 | []=>by simp[iz,jB,rA,iD]
 | e::E=>by
  have:=tE φ i j E;simp only[jB,rA,iD,List.map_cons,iz,dl,if_true] at this ⊢;omega
theorem yA (φ:Nat→Nat) {k i j:Nat} (hi:i<k) (hj:j<k):∀E,iz φ E i j=iz (fun v=>uo k (φ v)) E i j
 | []=>rfl
 | e::E=>by
  have key:∀i,i<k→dl φ e i=dl (fun v=>uo k (φ v)) e i:=fun i hi=>by
   have h1:∀v,(i=uo k (φ v))=(i=φ v):=fun v=>propext (by unfold uo; split<;>omega)
   unfold dl;simp only[h1]
  simp only[iz];rw[yA φ hi hj E,key i hi,key j hj]
theorem nj (k i:Nat):uo k i≤k:=by unfold uo; split<;>omega
theorem qu (φ:Nat→Nat) (E:List (Nat × Nat)) (k:Nat):cA k (iz φ E)=(oQ k (fun i=>i) (iD (fun v=>uo k (φ v)) E):Int):=by
 rw[←oN (iD (fun v=>uo k (φ v)) E) (fun i=>i) (fun _=>rfl) rfl fun e he=>?_]
 ·refine bB fun r c hr hc=>?_;rw[yA φ hr hc,tE]
 ·unfold iD at he;obtain⟨e',_,rfl⟩:=List.mem_map.1 he;exact⟨nj _ _,nj _ _⟩
theorem yF (φ:Nat→Nat) (E:List (Nat × Nat)) (s:Nat) (h:∀e ∈ E,φ e.1≤s∧φ e.2≤s):cA s (iz φ E)=(oQ s (fun i=>i) (iD φ E):Int):=by
 rw[←oN (iD φ E) (fun i=>i) (fun _=>rfl) rfl fun e he=>?_]
 ·exact bB fun r c _ _=>tE _ _ _ _
 ·unfold iD at he;obtain⟨e',h1,rfl⟩:=List.mem_map.1 he;exact h e' h1
theorem vP (φ:Nat→Nat) (E:List (Nat × Nat)) (s:Nat) (h:∀e ∈ E,φ e.1≤s∧φ e.2≤s) {k:Nat} (hk:k<s) (h0:cA (k+1) (iz φ E)=0):cA s (iz φ E)=0:=by
 rw[yF φ E s h];rw[qu] at h0;refine Int.natCast_eq_zero.2 (Nat.eq_zero_of_not_pos fun hp=>?_);have hs:∀e ∈ iD φ E,e.1≤s∧e.2≤s:=fun e he=>by
  obtain⟨e',h1,rfl⟩:=List.mem_map.1 he;exact h e' h1
 have hk':∀e ∈ iD (fun v=>uo (k+1) (φ v)) E,e.1≤k+1∧e.2≤k+1:=fun e he=>by
  obtain⟨e',_,rfl⟩:=List.mem_map.1 he;exact⟨nj _ _,nj _ _⟩
 have hu:=(oG s _ _ (Rho.id s) hs).1 hp;have hz:0<oQ (k+1) (fun i=>i) (iD (fun v=>uo (k+1) (φ v)) E):=by
  refine(oG (k+1) _ _ (Rho.id _) hk').2 fun f hf he i hi=>?_;have h1:=fun j hj=>hu (fun j=>f (uo (k+1) j)) (fun _=>rfl) (fun e h2=>?_) j hj
  ·have c1:uo (k+1) s=k+1:=by unfold uo; rw[if_neg (by omega)]
   have h2:=h1 i (by omega)
   rw[c1] at h2
   by_cases hik:i=k+1
   ·rw[hik]
   ·have c2:uo (k+1) i=i:=by unfold uo; rw[if_pos (by omega)]
    rwa[c2] at h2
  ·obtain⟨e',h3,rfl⟩:=List.mem_map.1 h2;exact he (uo (k+1) (φ e'.1),uo (k+1) (φ e'.2)) (List.mem_map.2 ⟨e',h3,rfl⟩)
 omega
theorem Ft (φ:Nat→Nat) (E:List (Nat × Nat)) (s:Nat) (h:∀e ∈ E,φ e.1≤s∧φ e.2≤s):Gc s 0 (iz φ E) 1=(oQ s (fun i=>i) (iD φ E):Int):=by
 rw[←yF φ E s h];exact yK (fun k hk h0=>vP φ E s h hk h0) s 0 _ 1 (Nat.add_zero _) (Bar.start _ _)
def Nb (E:List (Nat × Nat)) (x y:Nat):Prop:=(x,y) ∈ E∨(y,x) ∈ E
inductive Cn (E:List (Nat × Nat)) (i:Nat):Nat→Prop
 | refl:Cn E i i
 | step {j k:Nat}:Cn E i j→Nb E j k→Cn E i k
section
variable {E E' : List (Nat × Nat)} {i j k x y : Nat}
theorem Nb.symm (h:Nb E x y):Nb E y x:=h.elim .inr .inl
theorem Cn.trans (h:Cn E i j) (h':Cn E j k):Cn E i k:=by
 induction h' with
 | refl=>exact h
 | step _ a ih=>exact .step ih a
theorem Cn.one (h:Nb E x y):Cn E x y:=.step .refl h
theorem Cn.symm (h:Cn E i j):Cn E j i:=by
 induction h with
 | refl=>exact .refl
 | step _ a ih=>exact(Cn.one a.symm).trans ih
theorem Nb.mono (hs:∀e ∈ E,e ∈ E') (h:Nb E x y):Nb E' x y:=h.elim (fun h=>.inl (hs _ h)) fun h=>.inr (hs _ h)
theorem Cn.mono (hs:∀e ∈ E,e ∈ E') (h:Cn E i j):Cn E' i j:=by
 induction h with
 | refl=>exact .refl
 | step _ a ih=>exact .step ih (a.mono hs)
theorem Cn.closed {Q:Nat→Prop} (h:Cn E i j) (hi:Q i) (hc:∀x y,Q x→Nb E x y→Q y):Q j:=by
 induction h with
 | refl=>exact hi
 | step _ a ih=>exact hc _ _ ih a
theorem HE:Cn [] i j↔i=j:=⟨fun h=>h.closed (Q:=fun j=>i=j) rfl fun _ _ _ h=>by rcases h with h|h<;>simp at h,fun h=>h ▸ .refl⟩
theorem E2 {a b:Nat}:Cn ((a,b)::E) i j↔Cn E i j∨(Cn E i a∧Cn E b j)∨(Cn E i b∧Cn E a j):=by
 constructor
 ·intro h;refine h.closed (Q:=fun j=>Cn E i j∨(Cn E i a∧Cn E b j)∨(Cn E i b∧Cn E a j)) (.inl .refl) fun x y hx hn=>?_;have old:Nb E x y→Cn E i y∨(Cn E i a∧Cn E b y)∨(Cn E i b∧Cn E a y):=fun hn=>by
   rcases hx with h|⟨h1,h2⟩|⟨h1,h2⟩
   ·exact .inl (.step h hn)
   ·exact .inr (.inl ⟨h1,.step h2 hn⟩)
   ·exact .inr (.inr ⟨h1,.step h2 hn⟩)
  rcases hn with hn|hn
  ·rcases List.mem_cons.1 hn with e|hn
   ·cases e;rcases hx with h|⟨h1,h2⟩|⟨h1,h2⟩
    ·exact .inr (.inl ⟨h,.refl⟩)
    ·exact .inr (.inl ⟨h1,.refl⟩)
    ·exact .inl h1
   ·exact old (.inl hn)
  ·rcases List.mem_cons.1 hn with e|hn
   ·cases e;rcases hx with h|⟨h1,h2⟩|⟨h1,h2⟩
    ·exact .inr (.inr ⟨h,.refl⟩)
    ·exact .inl h1
    ·exact .inr (.inr ⟨h1,.refl⟩)
   ·exact old (.inr hn)
 ·have up:∀{x y},Cn E x y→Cn ((a,b)::E) x y:=fun h=>h.mono fun e he=>by simp[he]
  have ab:Cn ((a,b)::E) a b:=.one (.inl (by simp))
  rintro(h|⟨h1,h2⟩|⟨h1,h2⟩)
  ·exact up h
  ·exact((up h1).trans ab).trans (up h2)
  ·exact((up h1).trans ab.symm).trans (up h2)
theorem ET (h:∀e,e ∈ E↔e ∈ E'):Cn E i j↔Cn E' i j:=⟨fun g=>g.mono fun e he=>(h e).1 he,fun g=>g.mono fun e he=>(h e).2 he⟩
def cy (r:Nat→Nat) (e:Nat × Nat):Nat→Nat:=fun x=>if r x=max (r e.1) (r e.2) then min (r e.1) (r e.2) else r x
structure Rt (r:Nat→Nat) (E:List (Nat × Nat)):Prop where
 le:∀x,r x≤x
 rr:∀x,r (r x)=r x
 cn:∀x y,r x=r y↔Cn E x y
theorem Rt.id:Rt (fun x=>x) []:=⟨fun _=>Nat.le_refl _,fun _=>rfl,fun _ _=>HE.symm⟩
theorem lL {r:Nat→Nat} {e:Nat × Nat} (h:r e.1=r e.2):cy r e=r:=by
 funext x
 simp only[cy,h,Nat.max_self,Nat.min_self]
 split
 ·rename_i h; exact h.symm
 ·rfl
theorem Rt.join {r:Nat→Nat} (h:Rt r E) (e:Nat × Nat):Rt (cy r e) (e::E):=by
 obtain⟨a,b⟩:=e;have hmin:∀x,cy r (a,b) x≤r x:=fun x=>by
  simp only[cy]; split<;>omega
 have hm1:r (min (r a) (r b))=min (r a) (r b):=by
  rcases Nat.le_total (r a) (r b) with h1|h1
  ·rw[Nat.min_eq_left h1,h.rr]
  ·rw[Nat.min_eq_right h1,h.rr]
 refine⟨fun x=>Nat.le_trans (hmin x) (h.le x),fun x=>?_,fun x y=>?_⟩
 ·simp only[cy]
  by_cases h1:r x=max (r a) (r b)
  ·rw[if_pos h1,hm1]
   split<;>omega
  ·rw[if_neg h1,h.rr,if_neg h1]
 ·rw[E2,←h.cn,←h.cn,←h.cn,←h.cn,←h.cn];simp only[cy];have h2:max (r a) (r b)=r a∧min (r a) (r b)=r b∨max (r a) (r b)=r b∧min (r a) (r b)=r a:=by omega
  split<;>split<;>omega
theorem Rt.Jg:∀{T E:List (Nat × Nat)} {r:Nat→Nat},Rt r E→Rt (T.foldl cy r) (T.reverse++E):=by
 intro T
 induction T with
 | nil=>intro E r h; exact h
 | cons e T ih =>
  intro E r h;have:=ih (h.join e);rwa[List.foldl_cons,List.reverse_cons,List.append_assoc]
def rep (T:List (Nat × Nat)):Nat→Nat:=T.foldl cy (fun x=>x)
theorem tO (T:List (Nat × Nat)):Rt (rep T) T.reverse:=by
 have:=Rt.Jg (T:=T) Rt.id;rwa[List.append_nil] at this
theorem CW {T:List (Nat × Nat)}:rep T x=rep T y↔Cn T x y:=((tO T).cn x y).trans (ET fun e=>List.mem_reverse)
def k6 (V:List Nat) (r:Nat→Nat):Nat:=(V.filter fun v=>r v == v).length
theorem oi {p q:Nat→Bool} {a:Nat}:∀{V:List Nat},V.Nodup→a ∈ V→p a=true→(∀v,q v=true↔p v=true∧v≠a)→(V.filter p).length=(V.filter q).length+1:=by
 intro V
 induction V with
 | nil=>intro _ h; cases h
 | cons v V ih =>
  intro hn ha hp hq;rw[List.nodup_cons] at hn
  by_cases e:v=a
  ·subst e;have hqa:q v=false:=by
    cases h:q v with
    | false=>rfl
    | true=>exact absurd rfl ((hq v).1 h).2
   rw[List.filter_cons_of_pos hp,List.filter_cons_of_neg (by simp[hqa]),List.length_cons]
   congr 2
   refine List.filter_congr fun x hx=>?_;have hne:x≠v:=fun e=>hn.1 (e ▸ hx);have:=hq x;cases h1:p x<;>cases h2:q x<;>simp_all
  ·have ha':a ∈ V:=by rcases List.mem_cons.1 ha with h|h; exact absurd h.symm e; exact h
   have:=ih hn.2 ha' hp hq;have hv:q v=p v:=by
    have:=hq v;cases h1:p v<;>cases h2:q v<;>simp_all
   by_cases h1:p v=true
   ·rw[List.filter_cons_of_pos h1,List.filter_cons_of_pos (by rw[hv]; exact h1),List.length_cons,List.length_cons,this]
   ·rw[List.filter_cons_of_neg h1,List.filter_cons_of_neg (by rw[hv]; exact h1),this]
theorem xS {V:List Nat} {r:Nat→Nat} {e:Nat × Nat} (hV:V.Nodup) (hr:∀x,r (r x)=r x) (h1:r e.1 ∈ V) (h2:r e.2 ∈ V) (hne:r e.1≠r e.2):k6 V r=k6 V (cy r e)+1:=by
 have hm:max (r e.1) (r e.2) ∈ V:=by
  rcases Nat.le_total (r e.1) (r e.2) with h|h
  ·rwa[Nat.max_eq_right h]
  ·rwa[Nat.max_eq_left h]
 have hrm:r (max (r e.1) (r e.2))=max (r e.1) (r e.2):=by
  rcases Nat.le_total (r e.1) (r e.2) with h|h
  ·rw[Nat.max_eq_right h,hr]
  ·rw[Nat.max_eq_left h,hr]
 refine oi (a:=max (r e.1) (r e.2)) hV hm (by simp only[beq_iff_eq]; exact hrm) fun v=>?_
 simp only[beq_iff_eq,cy];constructor
 ·intro h
  split at h
  ·rename_i h3;exfalso;have h4:r v=v:=by rw[←h] at h3 ⊢; rcases Nat.le_total (r e.1) (r e.2) with h|h<;>simp only[Nat.min_eq_left h,Nat.min_eq_right h,hr]
   omega
  ·rename_i h3; exact⟨h,fun e=>h3 (by rw[e,hrm])⟩
 ·rintro⟨h,h3⟩;rw[if_neg (by rw[h]; exact h3)]; exact h
def mA (r:Nat→Nat):List (Nat × Nat)→Nat
 | []=>0
 | e::T=>(if r e.1=r e.2 then 0 else 1)+mA (cy r e) T
def de (r:Nat→Nat):List (Nat × Nat)→Bool
 | []=>true
 | e::T=>!(r e.1 == r e.2) && de (cy r e) T
theorem p6:∀(T:List (Nat × Nat)) (r:Nat→Nat),mA r T≤T.length
 | [],_=>Nat.le_refl _
 | e::T,r=>by
  have:=p6 T (cy r e);simp only[mA,List.length_cons]
  split<;>omega
theorem ri:∀(T:List (Nat × Nat)) (r:Nat→Nat),mA r T=T.length↔de r T=true
 | [],_=>by simp[mA,de]
 | e::T,r=>by
  have h1:=p6 T (cy r e);have h2:=ri T (cy r e);simp only[mA,List.length_cons,de,Bool.and_eq_true,Bool.not_eq_true',beq_eq_false_iff_ne,ne_eq]
  by_cases h:r e.1=r e.2
  ·rw[if_pos h]; simp[h]; omega
  ·rw[if_neg h,←h2]; simp[h]; omega
theorem nY {V:List Nat} (hV:V.Nodup):∀(T:List (Nat × Nat)) {E:List (Nat × Nat)} {r:Nat→Nat},Rt r E→(∀x ∈ V,r x ∈ V)→(∀e ∈ T,e.1 ∈ V∧e.2 ∈ V)→k6 V r=k6 V (T.foldl cy r)+mA r T∧∀x ∈ V,T.foldl cy r x ∈ V
 | [],_,_,_,hv,_=>⟨rfl,hv⟩
 | e::T,E,r,h,hv,ht=>by
  have he:=ht e (by simp)
  have hv':∀x ∈ V,cy r e x ∈ V:=fun x hx=>by
   simp only[cy]
   split
   ·rcases Nat.le_total (r e.1) (r e.2) with h|h
    ·rw[Nat.min_eq_left h]; exact hv _ he.1
    ·rw[Nat.min_eq_right h]; exact hv _ he.2
   ·exact hv x hx
  have ih:=nY hV T (h.join e) hv' fun e he=>ht e (by simp[he])
  refine⟨?_,ih.2⟩;rw[List.foldl_cons];simp only[mA]
  by_cases hne:r e.1=r e.2
  ·rw[if_pos hne,Nat.zero_add,←ih.1,lL hne]
  ·rw[if_neg hne,xS hV h.rr (hv _ he.1) (hv _ he.2) hne,ih.1]; omega
theorem Bj (V:List Nat):k6 V (fun x=>x)=V.length:=by simp[k6]
theorem kD {V:List Nat} (hV:V.Nodup) {T:List (Nat × Nat)} (ht:∀e ∈ T,e.1 ∈ V∧e.2 ∈ V):V.length=k6 V (rep T)+mA (fun x=>x) T∧∀x ∈ V,rep T x ∈ V:=by
 have:=nY hV T Rt.id (fun x h=>h) ht;rwa[Bj] at this
theorem qJ {p:Nat→Bool}:∀{V:List Nat},V.Nodup→(∀i j,i ∈ V→j ∈ V→p i=true→p j=true→i=j)→(V.filter p).length≤1:=by
 intro V
 induction V with
 | nil=>intro _ _; exact Nat.zero_le _
 | cons v V ih =>
  intro hn h;rw[List.nodup_cons] at hn
  by_cases hp:p v=true
  ·rw[List.filter_cons_of_pos hp];have:V.filter p = []:=List.filter_eq_nil_iff.2 fun x hx hpx=>hn.1 ((h v x (by simp) (by simp[hx]) hp hpx) ▸ hx)
   rw[this]; exact Nat.le_refl _
  ·rw[List.filter_cons_of_neg hp];exact ih hn.2 fun i j hi hj=>h i j (by simp[hi]) (by simp[hj])
theorem AT {V:List Nat} (hV:V.Nodup) {T:List (Nat × Nat)} (ht:∀e ∈ T,e.1 ∈ V∧e.2 ∈ V):k6 V (rep T)≤1↔∀x ∈ V,∀y ∈ V,Cn T x y:=by
 have hr:=tO T;have hv:=(kD hV ht).2;constructor
 ·intro h x hx y hy;rw[←CW];have hmem:∀z ∈ V,rep T z ∈ V.filter fun v=>rep T v == v:=fun z hz=>List.mem_filter.2 ⟨hv z hz,by simp only[beq_iff_eq]; exact hr.rr z⟩
  have one:∀{l:List Nat} {a b:Nat},l.length≤1→a ∈ l→b ∈ l→a=b:=by
   intro l a b hl ha hb
   match l with
   | []=>cases ha
   | [c]=>rw[List.mem_singleton.1 ha,List.mem_singleton.1 hb]
   | _::_::_=>simp at hl
  exact one h (hmem x hx) (hmem y hy)
 ·intro h;refine qJ hV fun i j hi hj h1 h2=>?_;have:=CW.2 (h i hi j hj);rw[←eq_of_beq h1,←eq_of_beq h2,this]
theorem zS {V:List Nat} (hV:V.Nodup) {T:List (Nat × Nat)} (ht:∀e ∈ T,e.1 ∈ V∧e.2 ∈ V) {x:Nat} (hx:x ∈ V):0<k6 V (rep T) :=
 List.length_pos_of_mem (List.mem_filter.2 ⟨(kD hV ht).2 x hx,by simp only[beq_iff_eq]; exact(tO T).rr x⟩)
theorem CJ {V:List Nat} (hV:V.Nodup) {T:List (Nat × Nat)} (ht:∀e ∈ T,e.1 ∈ V∧e.2 ∈ V) {x:Nat} (hx:x ∈ V) (hl:T.length+1=V.length):de (fun x=>x) T=true↔∀y ∈ V,Cn T x y:=by
 have h1:=(kD hV ht).1;have h2:=p6 T fun x=>x;have h3:=zS hV ht hx;rw[←ri];have:k6 V (rep T)≤1↔∀y ∈ V,Cn T x y:=(AT hV ht).trans ⟨fun h y hy=>h x hx y hy,fun h y hy z hz=>(h y hy).symm.trans (h z hz)⟩;rw[←this];omega
end
end Go.Ab.T30
end

section
namespace Go.Ab.W
open Go Go.Ab
theorem rP {a:Nat} (h:a<2 ^ 64):uw .u64 a=a:=Nat.mod_eq_of_lt h
theorem Dn {a:Nat} (h:a<2 ^ 64) {i:Nat} (hi:a.testBit i=true):i<64:=by
 rcases Nat.lt_or_ge i 64 with h1|h1
 ·exact h1
 ·have:a<2 ^ i:=Nat.lt_of_lt_of_le h (Nat.pow_le_pow_right (by decide) h1)
  rw[Nat.testBit_lt_two_pow this] at hi; cases hi
theorem vH {a b:Nat} (ha:a<2 ^ 64) (hb:b<2 ^ 64):uw .u64 (uw .u64 a &&& uw .u64 b)=a &&& b:=by
 rw[rP ha,rP hb,rP (Nat.lt_of_le_of_lt Nat.and_le_left ha)]
theorem Fm {a b:Nat} (ha:a<2 ^ 64) (hb:b<2 ^ 64):uw .u64 (uw .u64 a ||| uw .u64 b)=a ||| b:=by
 rw[rP ha,rP hb,rP (Nat.or_lt_two_pow ha hb)]
theorem vi {a k:Nat} (h:k≤64):bZ .u64 a k=a >>> k:=by
 unfold bZ;rw[Nat.min_eq_left (show k≤IntKind.bits .u64 from h),Nat.shiftRight_eq_div_pow]
theorem yi {a k:Nat} (ha:a<2 ^ 64) (h:k≤64):decide (uw .u64 (uw .u64 (bZ .u64 a k) &&& uw .u64 1)=1)=a.testBit k:=by
 have hs:a >>> k<2 ^ 64:=Nat.lt_of_le_of_lt (by rw[Nat.shiftRight_eq_div_pow]; exact Nat.div_le_self _ _) ha
 rw[vi h,vH hs (by decide),Nat.testBit]
 rw[Nat.and_comm];have h2:1 &&& a >>> k=(a >>> k)%2:=by rw[Nat.and_comm,Nat.and_one_is_mod]
 rw[h2];rcases Nat.mod_two_eq_zero_or_one (a >>> k) with h3|h3<;>rw[h3]<;>rfl
theorem CP {a b:Nat} (h:∀i,a.testBit i=true↔b.testBit i=true):a=b:=Nat.eq_of_testBit_eq fun i=>by
 have:=h i;cases ha:a.testBit i<;>cases hb:b.testBit i<;>simp_all
theorem Hb {x:Nat} (h0:0<x) (h1:x<2 ^ 64):x.testBit (tz x)=true∧∀i,i<tz x→x.testBit i=false:=by
 obtain⟨h2,_,q,hq⟩:=yj h0 h1;have key:∀i,x.testBit i=(decide (tz x≤i) && (2*q+1).testBit (i-tz x)):=fun i=>by
  conv=>lhs; rw[hq]
  rw[Nat.testBit_two_pow_mul]
 refine⟨?_,fun i hi=>?_⟩
 ·rw[key,Nat.sub_self];simp[Nat.testBit_zero]
 ·rw[key,decide_eq_false (by omega)]; rfl
section
variable {σ ρ τ : Type}
end
end Go.Ab.W
end

section
namespace Go.Proofs.YtookeaakpiefjaaDoor
open Go Go.Ab Go.Ab.W
section
variable {α β σ ρ : Type}
theorem jR (a b:Option β):br true a b=a:=rfl
theorem jx (a b:Option β):br false a b=b:=rfl
theorem bD (a:Option β):gd true a=a:=rfl
theorem aA (x:α) (f:α→Option β):ob (some x) f=f x:=rfl
theorem cj {p:Prop} [Decidable p] (h:p) (a b:Option β):br (decide p) a b=a:=by rw[decide_eq_true h]; rfl
theorem cz {p:Prop} [Decidable p] (h:¬p) (a b:Option β):br (decide p) a b=b:=by rw[decide_eq_false h]; rfl
theorem dm {p:Prop} [Decidable p] (h:p) (a:Option β):gd (decide p) a=a:=by rw[decide_eq_true h]; rfl
theorem aO {i n:Nat} (h:i<n):bJ (i:Int) n=true:=decide_eq_true ⟨Int.natCast_nonneg i,by simpa using h⟩
theorem dw {x:Int} (h1 : -9223372036854775808≤x) (h2:x<9223372036854775808):IntKind.wrap .i64 x=x:=wrap_i64 x h1 (by omega)
theorem cT {i:Nat} (h:i<4611686018427387904):IntKind.wrap .i64 ((i:Int)+1)=((i+1:Nat):Int):=by rw[dw (by omega) (by omega)]; rfl
theorem du {body:σ→Option (σ ⊕ ρ)} {n:Nat} {s s':σ} (h:body s=some (.inl s')):bL body (n+1) s=bL body n s':=by simp only[bL,h]
theorem dB {body:σ→Option (σ ⊕ ρ)} {n:Nat} {s:σ} {r:ρ} (h:body s=some (.inr r)):bL body (n+1) s=some r:=by simp only[bL,h]
end
def zY (N:Int):Int × Int→List (Int × Int)→Bool
 | _,[]=>true
 | p,e::es=>decide (0≤e.1∧e.1<e.2∧e.2<N) && decide (p.1<e.1∨p.1=e.1∧p.2<e.2) && zY N e es
def Le (N:Int) (es:List (Int × Int)):Bool:=decide (1≤N∧N≤64∧es.length≤200) && zY N (-1,-1) es
def nm (N:Int) (p e:Int × Int):Bool:=decide (0≤e.1∧e.1<e.2∧e.2<N) && decide (p.1<e.1∨p.1=e.1∧p.2<e.2)
theorem BT (N:Int) (p e:Int × Int) (es:List (Int × Int)):zY N p (e::es)=(nm N p e && zY N e es):=rfl
theorem nG {n:Nat} (h:n≤1073741824):mS n=true:=Nat.ble_eq_true_of_le h
def K4 (es:List (Int × Int)) (i j:Nat):Prop:=((i:Int),(j:Int)) ∈ es∨((j:Int),(i:Int)) ∈ es
theorem yl {N:Int}:∀{es:List (Int × Int)} {p:Int × Int},zY N p es=true→∀e ∈ es,0≤e.1∧e.1<e.2∧e.2<N
 | [],_,_,e,he=>by cases he
 | x::es,p,h,e,he=>by
  rw[BT,Bool.and_eq_true] at h;rcases List.mem_cons.1 he with rfl|he
  ·simp only[nm,Bool.and_eq_true,decide_eq_true_eq] at h;exact h.1.1
  ·exact yl h.2 e he
structure Okay (N:Nat) (es:List (Int × Int)):Prop where
 pos:1≤N
 le:N≤64
 len:es.length≤200
 mem:∀e ∈ es,∃a b:Nat,e=((a:Int),(b:Int))∧a<b∧b<N
theorem ES {N:Int} {es:List (Int × Int)} (h:Le N es=true):∃M:Nat,N=(M:Int)∧Okay M es:=by
 simp only[Le,Bool.and_eq_true,decide_eq_true_eq] at h;obtain⟨⟨h1,h2,h3⟩,h4⟩:=h;obtain⟨M,rfl⟩:=Int.eq_ofNat_of_zero_le (show 0≤N by omega)
 refine⟨M,rfl,by omega,by omega,h3,fun e he=>?_⟩
 obtain⟨g1,g2,g3⟩:=yl h4 e he;obtain⟨a,b⟩:=e;obtain⟨a,rfl⟩:=Int.eq_ofNat_of_zero_le (show 0≤a from g1)
 obtain⟨b,rfl⟩:=Int.eq_ofNat_of_zero_le (show 0≤b by simp only at g1 g2; omega)
 exact⟨a,b,rfl,by simp only at g2; omega,by simp only at g3; omega⟩
theorem Okay.K4 {N:Nat} {es:List (Int × Int)} (h:Okay N es) {i j:Nat} (ha:K4 es i j):i<N∧j<N∧i≠j:=by
 rcases ha with ha|ha
 ·obtain⟨a,b,e,h1,h2⟩:=h.mem _ ha;simp only[Prod.mk.injEq,Int.natCast_inj] at e;omega
 ·obtain⟨a,b,e,h1,h2⟩:=h.mem _ ha;simp only[Prod.mk.injEq,Int.natCast_inj] at e;omega
def bl (x:Nat):Nat:=if x=0 then 0 else Nat.log2 x+1
theorem qb {x k:Nat}:k<bl x↔2 ^ k≤x:=by
 unfold bl
 by_cases h:x=0
 ·subst h;rw[if_pos rfl];have:=Nat.two_pow_pos k;omega
 ·rw[if_neg h,Nat.lt_succ_iff,Nat.le_log2 h]
theorem AY {x m:Nat} (h:∀k,k<m↔2 ^ k≤x):m=bl x:=by
 rcases Nat.lt_trichotomy m (bl x) with h1|h1|h1
 ·have:=(h m).2 (qb.1 h1); omega
 ·exact h1
 ·have:=qb.2 ((h (bl x)).1 h1); omega
theorem Bc {x s:Nat} (h:2 ^ s≤x):bl (x >>> s)+s=bl x:=by
 refine AY fun k=>?_;rw[Nat.shiftRight_eq_div_pow]
 by_cases hk:k<s
 ·have:2 ^ k≤2 ^ s:=Nat.pow_le_pow_right (by decide) (by omega)
  constructor
  ·intro _; omega
  ·intro _; omega
 ·obtain⟨d,rfl⟩:∃d,k=d+s:=⟨k-s,by omega⟩
  have h1:=qb (x:=x/2 ^ s) (k:=d);have h2:2 ^ (d+s)≤x↔2 ^ d≤x/2 ^ s:=by rw[Nat.pow_add,Nat.le_div_iff_mul_le (Nat.two_pow_pos s)]
  rw[h2,←h1]; omega
theorem IA:∀y:Fin 256,fw[y.val]? = some (bl y.val):=by decide +kernel
theorem F7 {x s:Nat} (h:x<2 ^ s):bl x≤s:=by
 rcases Nat.lt_or_ge s (bl x) with h1|h1
 ·have:=qb.1 h1; omega
 ·exact h1
theorem qo (s y m:Nat) (hs:s≤32) (hy:y<2 ^ (2*s)) (hm:m≤64):∃y' m':Nat,br (decide (2 ^ s≤y)) (some (bZ .u64 y s,IntKind.wrap .i64 ((m:Int)+(s:Int)))) (some (y,(m:Int)))=some (y',(m':Int))∧y'<2 ^ s∧bl y'+m'=bl y+m∧m'≤m+s:=by
 by_cases h:2 ^ s≤y
 ·refine⟨y >>> s,m+s,?_,?_,?_,Nat.le_refl _⟩
  ·rw[cj h,vi (by omega),dw (by omega) (by omega)]; rfl
  ·rw[Nat.shiftRight_eq_div_pow,Nat.div_lt_iff_lt_mul (Nat.two_pow_pos s),←Nat.pow_add];rw[Nat.two_mul] at hy; exact hy
  ·have:=Bc h; omega
 ·exact⟨y,m,cz h _ _,by omega,rfl,by omega⟩
theorem Hd (n x:Nat) (hx:x<2 ^ 64):I1 n x=some ((bl x:Nat):Int):=by
 unfold I1;obtain⟨y1,m1,e1,h1,b1,g1⟩:=qo 32 x 0 (by omega) hx (by omega)
 have e1':br (decide (4294967296≤x)) (some (bZ .u64 x 32,(32:Int))) (some (x,0))=some (y1,(m1:Int)):=e1;rw[e1',aA];obtain⟨y2,m2,e2,h2,b2,g2⟩:=qo 16 y1 m1 (by omega) h1 (by omega)
 have e2':br (decide (65536≤y1)) (some (bZ .u64 y1 16,IntKind.wrap .i64 ((m1:Int)+16))) (some (y1,(m1:Int)))=some (y2,(m2:Int)):=e2;simp only[e2',aA];obtain⟨y3,m3,e3,h3,b3,g3⟩:=qo 8 y2 m2 (by omega) h2 (by omega)
 have e3':br (decide (256≤y2)) (some (bZ .u64 y2 8,IntKind.wrap .i64 ((m2:Int)+8))) (some (y2,(m2:Int)))=some (y3,(m3:Int)):=e3;simp only[e3',aA];have h3:y3<256:=h3;have e:uw .u8 y3=y3:=Nat.mod_eq_of_lt h3;have h8:bl y3≤8:=F7 h3;have ht:fw[y3]? = some (bl y3):=IA ⟨y3,h3⟩;have w1:IntKind.wrap .i64 ((bl y3:Nat):Int)=((bl y3:Nat):Int):=dw (by omega) (by omega)
 rw[e,aO h3,bD,Int.toNat_natCast,ht,aA,w1,dw (by omega) (by omega)]
 simp only[Option.some.injEq]; omega
inductive Rch (es:List (Int × Int)) (S:Nat) (i:Nat):Nat→Prop
 | refl:Rch es S i i
 | step {j k:Nat} (h:Rch es S i j) (ha:K4 es j k) (hk:S.testBit k=true):Rch es S i k
theorem Rch.mem {es:List (Int × Int)} {S i j:Nat} (h:Rch es S i j) (hi:S.testBit i=true):S.testBit j=true:=by
 cases h with
 | refl=>exact hi
 | step _ _ hk=>exact hk
theorem Rch.trans {es:List (Int × Int)} {S i j k:Nat} (h:Rch es S i j) (h':Rch es S j k):Rch es S i k:=by
 induction h' with
 | refl=>exact h
 | step _ ha hk ih=>exact .step ih ha hk
def Lp (es:List (Int × Int)) (S i w:Nat):Prop:=w<2 ^ 64∧∀j,w.testBit j=true↔Rch es S i j
inductive Cs (es:List (Int × Int)) (S:Nat):Nat→List Nat→Prop
 | nil:Cs es S 0 []
 | cons {r w:Nat} {L:List Nat} (h0:0<r) (hr:r<2 ^ 64) (hw:Lp es S (tz r) w) (t:Cs es S (zg .u64 r w) L):Cs es S r (w::L)
def jS (x t:Nat):List Nat:=(List.range t).filter fun i=>x.testBit i
def rk (x v:Nat):Nat:=(jS x v).length
theorem gX {x t v:Nat}:v ∈ jS x t↔v<t∧x.testBit v=true:=by simp[jS]
theorem DE {σ ρ τ:Type} {body:τ→Option (τ ⊕ ρ)} (N:Nat) (mk:σ→Int→τ) (fin:σ→ρ) (I:Nat→σ→Prop)
  (hs:∀s i,i<N→I i s→∃s',body (mk s (i:Int))=some (.inl (mk s' ((i+1:Nat):Int)))∧I (i+1) s') (he:∀s,I N s→body (mk s (N:Int))=some (.inr (fin s))) :
  ∀(k i n:Nat) (s:σ),i+k=N→I i s→k<n→∃s',bL body n (mk s (i:Int))=some (fin s')∧I N s':=by
 intro k
 induction k with
 | zero =>
  intro i n s hi hI hn;obtain⟨n,rfl⟩:∃n',n=n'+1:=⟨n-1,by omega⟩
  have:i=N:=by omega
  subst this;exact⟨s,by simp only[bL,he s hI],hI⟩
 | succ k ih =>
  intro i n s hi hI hn;obtain⟨n,rfl⟩:∃n',n=n'+1:=⟨n-1,by omega⟩
  obtain⟨s',h1,h2⟩:=hs s i (by omega) hI
  simp only[bL,h1];exact ih (i+1) n s' (by omega) h2 (by omega)
theorem mP {σ ρ τ:Type} {body:τ→Option (τ ⊕ ρ)} (N:Nat) (mk:σ→Int→τ) (fin:σ→ρ) (I:Nat→σ→Prop)
  (hs:∀s i,i<N→I i s→∃s',body (mk s (i:Int))=some (.inl (mk s' ((i+1:Nat):Int)))∧I (i+1) s') (he:∀s,I N s→body (mk s (N:Int))=some (.inr (fin s)))
  {n:Nat} {s:σ} (hI:I 0 s) (hn:N<n):∃s',bL body n (mk s 0)=some (fin s')∧I N s' :=
 DE N mk fin I hs he N 0 n s (by omega) hI hn
section
variable {n0 M : Nat} {l6 : List Int} {es : List (Int × Int)}
end
def val (w:Nat):List Nat→Nat
 | []=>0
 | d::ds=>d+2 ^ w*val w ds
def Bp (p:Int × Int) (l:List (Int × Int)):Int × Int:=(l.getLast?).getD p
def Ap (N:Int) (l:List (Int × Int)) (a b:Int):Prop:=zY N (-1,-1) l=true∧((Bp (-1,-1) l).1<a∨(Bp (-1,-1) l).1=a∧(Bp (-1,-1) l).2<b)
theorem Ap.next {N:Int} {l:List (Int × Int)} {a b:Int} (h:Ap N l a b):Ap N l a (b+1):=⟨h.1,by rcases h.2 with h|h; exact .inl h; exact .inr (by omega)⟩
theorem Ap.row {N:Int} {l:List (Int × Int)} {a b c:Int} (h:Ap N l a b):Ap N l (a+1) c:=⟨h.1,.inl (by rcases h.2 with h|h<;>omega)⟩
theorem Fe (S M:Nat):(jS S M).Pairwise (· < ·):=List.Pairwise.filter _ List.pairwise_lt_range
end Go.Proofs.YtookeaakpiefjaaDoor
end

section
namespace Go.Proofs.YtookeaakpiefjaaDoor
open Go Go.Ab Go.Ab.W Go.Ab.T30
def LK (T:List (Nat × Nat)) (x w:Nat):Prop:=w<2 ^ 64∧∀j,w.testBit j=true↔Cn T x j
theorem LK.uniq {T:List (Nat × Nat)} {x w w':Nat} (h:LK T x w) (h':LK T x w'):w=w':=CP fun i=>(h.2 i).trans (h'.2 i).symm
def eg (es:List (Int × Int)) (k:Int):Nat × Nat:=match es[k.toNat]? with
 | some e=>(e.1.toNat,e.2.toNat)
 | none=>(0,0)
def Vl (es:List (Int × Int)) (k:Int):Prop:=0≤k∧k<(es.length:Int)
theorem tP {N:Nat} {es:List (Int × Int)} {k:Int} (h:Okay N es) (hk:Vl es k):∃a b:Nat,es[k.toNat]? = some ((a:Int),(b:Int))∧eg es k=(a,b)∧a<b∧b<64∧b<N∧bJ k es.length=true:=by
 obtain⟨i,rfl⟩:=Int.eq_ofNat_of_zero_le hk.1;have hi:i<es.length:=by have:=hk.2; omega
 obtain⟨a,b,e,h1,h2⟩:=h.mem _ (List.getElem_mem hi);have h3:es[((i:Nat):Int).toNat]? = some ((a:Int),(b:Int)):=by rw[Int.toNat_natCast,List.getElem?_eq_getElem hi,e]
 have:=h.le;exact⟨a,b,h3,by unfold eg; rw[h3]; simp,h1,by omega,h2,aO hi⟩
def gw (es:List (Int × Int)):List Int→Nat→(Nat→Nat)→List (List Int)
 | _,0,_=>[[]]
 | [],_+1,_=>[]
 | k::L,d+1,r=>(if r (eg es k).1=r (eg es k).2 then[] else(gw es L d (cy r (eg es k))).map (k::·))++gw es L (d+1) r
def Cx (p q y:Nat):Nat:=if y=p then q else y
theorem uh {p q y z:Nat} (h:p≠q):Cx p q y=Cx p q z↔y=z∨((y=p∨y=q)∧(z=p∨z=q)):=by
 unfold Cx
 split<;>split<;>omega
theorem p9 (r:Nat→Nat) (e:Nat × Nat) (v:Nat):cy r e v=Cx (max (r e.1) (r e.2)) (min (r e.1) (r e.2)) (r v):=rfl
theorem mY {r:Nat→Nat} {e:Nat × Nat} (h:r e.1≠r e.2) (v w:Nat):cy r e v=cy r e w↔r v=r w∨((r v=r e.1∨r v=r e.2)∧(r w=r e.1∨r w=r e.2)):=by
 rw[p9,p9,uh (by omega)]
 omega
theorem oJ (ρ:Nat→Nat) (u v i:Nat):mg ρ u v i=Cx u v (ρ i):=rfl
theorem Cy {ρ:Nat→Nat} {s a b:Nat} (h:ρ a≠ρ b) (i j:Nat):(if ρ a=s then mg ρ (ρ b) (ρ a) else mg ρ (ρ a) (ρ b)) i=(if ρ a=s then mg ρ (ρ b) (ρ a) else mg ρ (ρ a) (ρ b)) j↔ρ i=ρ j∨((ρ i=ρ a∨ρ i=ρ b)∧(ρ j=ρ a∨ρ j=ρ b)):=by
 by_cases hs:ρ a=s
 ·simp only[if_pos hs];rw[oJ,oJ,uh (fun e=>h e.symm)];omega
 ·simp only[if_neg hs];rw[oJ,oJ,uh h]
def dg (s:Nat) (ρ:Nat→Nat):Nat:=((List.range s).filter fun i=>ρ i == i).length
theorem zv {s:Nat} {ρ:Nat→Nat} (h:Rho s ρ) {a b:Nat} (ha:a≤s) (hb:b≤s) (hab:ρ a≠ρ b):dg s ρ=dg s (if ρ a=s then mg ρ (ρ b) (ρ a) else mg ρ (ρ a) (ρ b))+1:=by
 have key:∀u v,ρ u=u→ρ v=v→u≠v→u<s→dg s ρ=dg s (mg ρ u v)+1:=fun u v hu hv huv hus=>by
  refine oi List.nodup_range (List.mem_range.2 hus) (by simpa using hu) fun i=>?_
  simp only[beq_iff_eq];unfold mg;constructor
  ·intro h1
   by_cases hi:ρ i=u
   ·rw[if_pos hi] at h1;rw[←h1,hv] at hi;exact absurd hi.symm huv
   ·rw[if_neg hi] at h1;exact⟨h1,fun e=>hi (by rw[h1,e])⟩
  ·rintro⟨h1,h2⟩;rw[if_neg (fun e=>h2 (by rw[←h1,e])),h1]
 by_cases hs:ρ a=s
 ·rw[if_pos hs];have h1:=h.le b hb;exact key _ _ (h.idem b) (h.idem a) (fun e=>hab e.symm) (by omega)
 ·rw[if_neg hs];have h1:=h.le a ha;exact key _ _ (h.idem a) (h.idem b) hab (by omega)
theorem kk {s:Nat} {ρ:Nat→Nat}:dg s ρ=0↔(List.range s).all (fun i=>ρ i != i)=true:=by
 unfold dg;rw[List.length_eq_zero_iff,List.filter_eq_nil_iff,List.all_eq_true];simp
theorem mF {s:Nat} {ρ:Nat→Nat} (h:Rho s ρ) (h0:dg s ρ=0) {i:Nat} (hi:i≤s):ρ i=s:=by
 have h1:=List.all_eq_true.1 (kk.1 h0);have h2:=h.le i hi
 by_cases h3:ρ i<s
 ·have h4:=h1 (ρ i) (List.mem_range.2 h3);rw[h.idem] at h4;simp at h4
 ·omega
theorem vg {s:Nat} {ρ:Nat→Nat} (h:Rho s ρ) (h0:dg s ρ=0):∀E:List (Nat × Nat),(∀e ∈ E,e.1≤s∧e.2≤s)→oQ s ρ E=1
 | [],_=>by simp only[oQ]; rw[if_pos (kk.1 h0)]
 | (a,b)::E,hE=>by
  have ha:a≤s:=(hE (a,b) List.mem_cons_self).1;have hb:b≤s:=(hE (a,b) List.mem_cons_self).2;simp only[oQ];rw[if_pos (by rw[mF h h0 ha,mF h h0 hb]),vg h h0 E fun e he=>hE e (List.mem_cons_of_mem _ he)]
theorem xU {es:List (Int × Int)} {V:Nat→Prop} {s:Nat} {ψ:Nat→Nat} (hψ:∀v,V v→ψ v≤s) :
  ∀(L:List Int) (r ρ:Nat→Nat),Rho s ρ→(∀v w,V v→V w→(r v=r w↔ρ (ψ v)=ρ (ψ w)))→(∀k ∈ L,V (eg es k).1∧V (eg es k).2) →
   (gw es L (dg s ρ) r).length=oQ s ρ (iD ψ (L.map (eg es)))
 | [],r,ρ,h,hr,_=>by
  simp only[List.map_nil,iD,oQ]
  by_cases h0:dg s ρ=0
  ·rw[if_pos (kk.1 h0),h0]; rfl
  ·rw[if_neg (fun e=>h0 (kk.2 e))];obtain⟨d,hd⟩:∃d,dg s ρ=d+1:=⟨dg s ρ-1,by omega⟩
   rw[hd]; rfl
 | k::L,r,ρ,h,hr,hL=>by
  obtain⟨va,vb⟩:=hL k List.mem_cons_self;have hL':=fun k' hk'=>hL k' (List.mem_cons_of_mem _ hk');have ha:=hψ _ va;have hb:=hψ _ vb
  by_cases h0:dg s ρ=0
  ·rw[vg h h0 _ (fun e he=>by
    obtain⟨e',h1,rfl⟩:=List.mem_map.1 he;obtain⟨k',h2,rfl⟩:=List.mem_map.1 h1;exact⟨hψ _ (hL k' h2).1,hψ _ (hL k' h2).2⟩),h0]
   rfl
  ·have ih:=xU (es:=es) hψ L r ρ h hr hL';have hc:iD ψ ((k::L).map (eg es))=(ψ (eg es k).1,ψ (eg es k).2)::iD ψ (L.map (eg es)):=rfl;rw[hc];simp only[oQ]
   by_cases hab:ρ (ψ (eg es k).1)=ρ (ψ (eg es k).2)
   ·rw[if_pos hab,Nat.add_zero,←ih];obtain⟨d,hd⟩:∃d,dg s ρ=d+1:=⟨dg s ρ-1,by omega⟩
    rw[hd];simp only[gw];rw[if_pos ((hr _ _ va vb).2 hab),List.nil_append]
   ·rw[if_neg hab,←ih];have hra:r (eg es k).1≠r (eg es k).2:=fun e=>hab ((hr _ _ va vb).1 e);have ih2:=xU (es:=es) hψ L (cy r (eg es k)) _ (h.step ha hb hab) (fun v w hv hw=>by
     rw[mY hra,Cy hab,hr v w hv hw,hr v _ hv va,hr v _ hv vb,hr w _ hw va,hr w _ hw vb]) hL'
    have hd:=zv h ha hb hab;rw[hd];simp only[gw];rw[if_neg hra,List.length_append,List.length_map,ih2];omega
def qX (es:List (Int × Int)) (x:Nat) (k:Int):Bool:=decide (0≤k∧k<(es.length:Int)) && x.testBit (eg es k).1 && x.testBit (eg es k).2
theorem wR {es:List (Int × Int)} {x:Nat} {k:Int} (h:qX es x k=true):Vl es k∧x.testBit (eg es k).1=true∧x.testBit (eg es k).2=true:=by
 simp only[qX,Bool.and_eq_true,decide_eq_true_eq] at h;exact⟨h.1.1,h.1.2,h.2⟩
theorem tv (n x a b:Nat) (hx:x<2 ^ 64) (ha:a<64) (hb:b<64):CF n x (a:Int) (b:Int)=some (x.testBit a && x.testBit b):=by
 unfold CF;rw[decide_eq_true (Int.natCast_nonneg a),decide_eq_true (Int.natCast_nonneg b),bD,bD,Int.toNat_natCast,Int.toNat_natCast,yi hx (by omega),yi hx (by omega)]
 cases x.testBit a<;>rfl
structure Fst (p:List Int) (r:Nat→Nat):Prop where
 len:p.length=64
 at_:∀v,v<64→∃y:Nat,p[v]? = some (y:Int)∧y≤v∧(y=v→r v=v)∧(y≠v→r v=r y)
theorem Fst.root {p:List Int} {r:Nat→Nat} (h:Fst p r) (n0:Nat):∀(v n:Nat),v<64→v<n→bL (jq n0 p) n (v:Int)=some ((r v:Nat):Int):=by
 intro v
 induction v using Nat.strongRecOn with
 | _ v ih =>
  intro n hv hn;obtain⟨n,rfl⟩:∃n',n=n'+1:=⟨n-1,by omega⟩
  obtain⟨y,h1,h2,h3,h4⟩:=h.at_ v hv;have hb:bJ (v:Int) p.length=true:=aO (by rw[h.len]; exact hv)
  by_cases hy:y=v
  ·rw[h3 hy];exact dB (by unfold jq; simp[hb,h1,hy,gd,ob,br])
  ·rw[h4 hy,du (s':=(y:Int)) (by unfold jq; simp only[hb,bD,Int.toNat_natCast,h1,aA]; rw[decide_eq_false (by omega)]; rfl)]
   exact ih y (by omega) n (by omega) (by omega)
theorem BI {p:List Int} {r:Nat→Nat} (h:Fst p r) (n v:Nat) (hv:v<64) (hn:64<n):Gv n p (v:Int)=some ((r v:Nat):Int):=by
 unfold Gv;rw[h.root n v n hv (by omega),aA]
theorem Fst.join {p:List Int} {r:Nat→Nat} {E:List (Nat × Nat)} (h:Fst p r) (hr:Rt r E) {e:Nat × Nat} (h1:e.1<64) (h2:e.2<64):Fst (p.set (max (r e.1) (r e.2)) ((min (r e.1) (r e.2):Nat):Int)) (cy r e):=by
 have l1:=hr.le e.1;have l2:=hr.le e.2;have hM:max (r e.1) (r e.2)<64:=by omega
 have hrM:r (max (r e.1) (r e.2))=max (r e.1) (r e.2):=by
  rcases Nat.le_total (r e.1) (r e.2) with g|g
  ·rw[Nat.max_eq_right g,hr.rr]
  ·rw[Nat.max_eq_left g,hr.rr]
 have hrm:r (min (r e.1) (r e.2))=min (r e.1) (r e.2):=by
  rcases Nat.le_total (r e.1) (r e.2) with g|g
  ·rw[Nat.min_eq_left g,hr.rr]
  ·rw[Nat.min_eq_right g,hr.rr]
 refine⟨by rw[List.length_set,h.len],fun v hv=>?_⟩
 simp only[cy]
 by_cases hvM:v=max (r e.1) (r e.2)
 ·subst hvM;refine⟨min (r e.1) (r e.2),by rw[List.getElem?_set_self (by rw[h.len]; exact hM)],by omega,fun hy=>?_,fun hy=>?_⟩
  ·rw[if_pos hrM]; exact hy
  ·rw[if_pos hrM,hrm,if_neg hy]
 ·obtain⟨y,g1,g2,g3,g4⟩:=h.at_ v hv;refine⟨y,by rw[List.getElem?_set_ne (fun e=>hvM e.symm)]; exact g1,g2,fun hy=>?_,fun hy=>?_⟩
  ·rw[g3 hy,if_neg hvM]
  ·rw[g4 hy]
theorem Ez (n:Nat) (hn:64<n):∃p,Ja n=some p∧Fst p (fun x=>x):=by
 have:=mP (body:=uP n) 64 (fun(s:List Int) (v:Int)=>(s,v)) id (fun i s=>s.length=64∧∀v,v<i→s[v]? = some (v:Int)) (fun s i hi hI=>?_) (fun s _=>?_) (n:=n) (s:=List.replicate 64 (0:Int)) ⟨by simp,fun v hv=>absurd hv (Nat.not_lt_zero _)⟩ hn
 ·obtain⟨p,h1,h2,h3⟩:=this;refine⟨p,?_,h2,fun v hv=>⟨v,h3 v hv,Nat.le_refl _,fun _=>rfl,fun h=>absurd rfl h⟩⟩;unfold Ja;have e:(List.replicate (64:Int).toNat (0:Int))=List.replicate 64 0:=rfl;rw[e,decide_eq_true (by decide),bD,show mS ((64:Int).toNat)=true from rfl,bD,h1]; rfl
 ·refine⟨s.set i (i:Int),?_,by rw[List.length_set]; exact hI.1,fun v hv=>?_⟩
  ·unfold uP;have e:((64:Int).toNat)=64:=rfl;have hs:s[i]? = some (s[i]'(by rw[hI.1]; exact hi)):=List.getElem?_eq_getElem _
   simp only[e,decide_eq_true (show((i:Nat):Int)<((64:Nat):Int) by omega),jR,aO hi,bD,Int.toNat_natCast,hs,aA,cT (show i<4611686018427387904 by omega)]
  ·by_cases hvi:v=i
   ·subst hvi; rw[List.getElem?_set_self (by rw[hI.1]; exact hi)]
   ·rw[List.getElem?_set_ne (fun e=>hvi e.symm)]; exact hI.2 v (by omega)
 ·unfold uP;simp[br]
theorem q9 (x:Nat):(jS x 64).Nodup:=(Fe x 64).imp fun h=>Nat.ne_of_lt h
theorem Bl {N:Nat} {es:List (Int × Int)} (h:Okay N es) {x:Nat} {l:List Int} (hl:∀k ∈ l,qX es x k=true):∀e ∈ l.map (eg es),e.1 ∈ jS x 64∧e.2 ∈ jS x 64:=fun e he=>by
 obtain⟨k,hk,rfl⟩:=List.mem_map.1 he;obtain⟨h1,h2,h3⟩:=wR (hl k hk);obtain⟨a,b,_,g2,g3,g4,_⟩:=tP h h1;rw[g2] at h2 h3 ⊢;exact⟨gX.2 ⟨Nat.lt_trans g3 g4,h2⟩,gX.2 ⟨g4,h3⟩⟩
theorem Bg {N:Nat} {es:List (Int × Int)} (h:Okay N es) {x v:Nat} {l:List Int} (hx:x<2 ^ 64) (hl:∀k ∈ l,qX es x k=true) (hlen:l.length+1=rk x 64) (hv:x.testBit v=true):de (fun v=>v) (l.map (eg es))=true↔∀j,x.testBit j=true→Cn (l.map (eg es)) v j:=by
 have h0:=Dn hx hv;rw[CJ (q9 x) (Bl h hl) (gX.2 ⟨h0,hv⟩) (by rw[List.length_map]; exact hlen)]
 exact⟨fun g j hj=>g j (gX.2 ⟨Dn hx hj,hj⟩),fun g j hj=>g j (gX.1 hj).2⟩
structure Tr (N:Nat) (es:List (Int × Int)) (x:Nat) (l:List Int):Prop where
 ok:Okay N es
 hx:x<2 ^ 64
 h0:x≠0
 qX:∀k ∈ l,qX es x k=true
 len:l.length+1=rk x 64
 all:de (fun v=>v) (l.map (eg es))=true
 asc:l.Pairwise (· < ·)
section
variable {N : Nat} {es : List (Int × Int)} {x : Nat} {l : List Int} {at_ to : Nat} {k : Int}
theorem Tr.vl (h:Tr N es x l):∀k ∈ l,Vl es k:=fun k hk=>(wR (h.qX k hk)).1
theorem Tr.cn (h:Tr N es x l) {a b:Nat} (ha:x.testBit a=true) (hb:x.testBit b=true):Cn (l.map (eg es)) a b:=(Bg h.ok h.hx h.qX h.len ha).1 h.all b hb
end
section
variable {N : Nat} {es : List (Int × Int)} {x : Nat} {l : List Int} {at_ to : Nat}
end
def cb:Nat→Nat→Nat
 | _,0=>1
 | 0,_+1=>0
 | e+1,d+1=>cb e d+cb e (d+1)
theorem oY (e:Nat):cb e 0=1:=by cases e<;>rfl
theorem tC (e d:Nat):cb (e+1) (d+1)=cb e d+cb e (d+1):=rfl
theorem yG {e e':Nat} (h:e≤e') (d:Nat):cb e d≤cb e' d:=by
 induction h with
 | refl=>exact Nat.le_refl _
 | step _ ih =>
  cases d with
  | zero=>rw[oY,oY]; exact Nat.le_refl _
  | succ d=>rw[tC]; omega
def prs:List Nat→List (Int × Int)
 | []=>[]
 | v::V=>(V.map fun w=>(((v:Nat):Int),((w:Nat):Int)))++prs V
def il (es:List (Int × Int)) (x i j:Nat):List Int:=((List.range' i j).filter fun(k:Nat)=>qX es x (k:Int)).map fun(k:Nat)=>(k:Int)
end Go.Proofs.YtookeaakpiefjaaDoor
end

section
namespace Go.Proofs.YtookeaakpiefjaaDoor
open Go Go.Ab Go.Ab.W
def vl:List Nat→Nat
 | []=>0
 | d::l=>d+18446744073709551616*vl l
def Wd (l:List Nat):Prop:=∀d ∈ l,d<18446744073709551616
def wp (k:Nat):Nat:=18446744073709551616 ^ k
theorem Ef:wp 0=1:=rfl
theorem gS (k:Nat):wp (k+1)=18446744073709551616*wp k:=by unfold wp; rw[Nat.pow_succ,Nat.mul_comm]
theorem Hj (a b:Nat):wp (a+b)=wp a*wp b:=Nat.pow_add _ _ _
theorem C0 (k:Nat):0<wp k:=Nat.pow_pos (by decide)
theorem j8:vl []=0:=rfl
theorem fA (d:Nat) (l:List Nat):vl (d::l)=d+18446744073709551616*vl l:=rfl
theorem wH (a b:List Nat):vl (a++b)=vl a+wp a.length*vl b:=by
 induction a with
 | nil=>simp[vl,wp]
 | cons d a ih=>rw[List.cons_append,fA,fA,ih,List.length_cons,gS,Nat.mul_add,Nat.mul_assoc,Nat.add_assoc]
theorem rK {l:List Nat} (h:Wd l):vl l<wp l.length:=by
 induction l with
 | nil=>exact Nat.one_pos
 | cons d l ih =>
  have h1:=h d List.mem_cons_self;have h2:=ih fun e he=>h e (List.mem_cons_of_mem _ he);rw[fA,List.length_cons,gS];omega
theorem BM (k:Nat):vl (List.replicate k 0)=0:=by
 induction k with
 | zero=>rfl
 | succ k ih=>rw[List.replicate_succ,fA,ih]
theorem Wd.nil:Wd []:=fun _ h=>nomatch h
theorem Wd.zeros (k:Nat):Wd (List.replicate k 0):=fun d hd=>by rw[List.eq_of_mem_replicate hd]; decide
theorem Wd.app {a b:List Nat} (ha:Wd a) (hb:Wd b):Wd (a++b):=fun d hd=>(List.mem_append.1 hd).elim (ha d) (hb d)
theorem Wd.one {d:Nat} (h:d<18446744073709551616):Wd [d]:=fun e he=>by rw[List.mem_singleton.1 he]; exact h
theorem Wd.at {l:List Nat} (h:Wd l) {i d:Nat} (hi:l[i]? = some d):d<18446744073709551616:=h d (List.mem_of_getElem? hi)
theorem Wd.set {l:List Nat} (h:Wd l) {i d:Nat} (hd:d<18446744073709551616):Wd (l.set i d):=fun e he=>by
 rcases List.mem_or_eq_of_mem_set he with h1|rfl
 ·exact h e h1
 ·exact hd
theorem Wd.take {l:List Nat} (h:Wd l) (k:Nat):Wd (l.take k):=fun d hd=>h d (List.mem_of_mem_take hd)
theorem Wd.drop {l:List Nat} (h:Wd l) (k:Nat):Wd (l.drop k):=fun d hd=>h d (List.mem_of_mem_drop hd)
theorem eW (l:List Nat) (i:Nat) (hi:i≤l.length):vl l=vl (l.take i)+wp i*vl (l.drop i):=by
 have:=wH (l.take i) (l.drop i);rwa[List.take_append_drop,List.length_take,Nat.min_eq_left hi] at this
theorem k8 {l:List Nat} {i d:Nat} (hi:l[i]? = some d):vl (l.drop i)=d+18446744073709551616*vl (l.drop (i+1)):=by
 obtain⟨h1,h2⟩:=List.getElem?_eq_some_iff.1 hi;rw[List.drop_eq_getElem_cons h1,fA,h2]
theorem Ck {l:List Nat} {i d:Nat} (e:Nat) (hi:l[i]? = some d):vl (l.set i e)+wp i*d=vl l+wp i*e:=by
 obtain⟨h1,h2⟩:=List.getElem?_eq_some_iff.1 hi;have a:=eW l i (Nat.le_of_lt h1);have b:=eW (l.set i e) i (by rw[List.length_set]; exact Nat.le_of_lt h1)
 have c:(l.set i e)[i]? = some e:=by rw[List.getElem?_set_self h1]
 rw[k8 hi] at a;rw[k8 c,List.take_set_of_le (Nat.le_refl i),List.drop_set_of_lt (show i<i+1 from Nat.lt_succ_self i)] at b
 rw[a,b,Nat.mul_add,Nat.mul_add];omega
structure Lg (z:Int) (s:Bool) (l:List Nat):Prop where
 wd:Wd l
 last:∀d,l.getLast? = some d→d≠0
 val:z=if s then -(vl l:Int) else(vl l:Int)
 sign:s=true→l≠[]
theorem tU {l:List Nat} (h:∀d,l.getLast? = some d→d≠0) (hl:l≠[]):wp (l.length-1)≤vl l:=by
 obtain⟨a,d,rfl⟩:∃a d,l=a++[d]:=⟨l.dropLast,l.getLast hl,(List.dropLast_concat_getLast hl).symm⟩;have h1:=h d (by simp)
 rw[wH,List.length_append,List.length_singleton,Nat.add_sub_cancel,fA,j8];have:wp a.length*1≤wp a.length*(d+18446744073709551616*0):=Nat.mul_le_mul_left _ (by omega)
 omega
theorem iN {l:List Nat} (h:∀d,l.getLast? = some d→d≠0):vl l=0↔l = []:=by
 refine⟨fun h1=>?_,fun h1=>by rw[h1]; rfl⟩
 by_cases hl:l = []
 ·exact hl
 ·have:=tU h hl;have:=C0 (l.length-1);omega
theorem rS {d:Nat} {l:List Nat} (h:∀e,(d::l).getLast? = some e→e≠0):∀e,l.getLast? = some e→e≠0:=by
 intro e he;cases l with
 | nil=>cases he
 | cons a l=>exact h e (by rw[List.getLast?_cons_cons]; exact he)
theorem Dw:∀{l k:List Nat},Wd l→Wd k→(∀d,l.getLast? = some d→d≠0)→(∀d,k.getLast? = some d→d≠0)→vl l=vl k→l=k:=by
 intro l
 induction l with
 | nil=>intro k _ _ _ hk h; exact((iN hk).1 h.symm).symm
 | cons d l ih =>
  intro k wl wk hl hk h;cases k with
  | nil=>exact absurd ((iN hl).1 h) (by simp)
  | cons e k =>
   have h1:=wl d List.mem_cons_self;have h2:=wk e List.mem_cons_self;rw[fA,fA] at h;have h3:d=e:=by omega
   have h4:vl l=vl k:=by omega
   rw[h3,ih (fun x hx=>wl x (List.mem_cons_of_mem _ hx)) (fun x hx=>wk x (List.mem_cons_of_mem _ hx)) (rS hl) (rS hk) h4]
theorem Lg.inj {z:Int} {s t:Bool} {l k:List Nat} (h:Lg z s l) (h':Lg z t k):s=t∧l=k:=by
 have a:=h.val;have b:=h'.val;have hz:=iN h.last;have hz':=iN h'.last;have e:vl l=vl k:=by
  cases s<;>cases t<;>simp only[Bool.false_eq_true,if_false,if_true] at a b<;>omega
 have e':=Dw h.wd h'.wd h.last h'.last e;refine⟨?_,e'⟩;subst e';cases s<;>cases t<;>simp only[Bool.false_eq_true,if_false,if_true] at a b
 ·rfl
 ·exact absurd (hz.1 (by omega)) (h'.sign rfl)
 ·exact absurd (hz.1 (by omega)) (h.sign rfl)
 ·rfl
def vn (s:Bool) (x:Nat):Int:=if s then -(x:Int) else(x:Int)
theorem Lg.zero:Lg 0 false []:={ wd:=Wd.nil,last:=fun _ h=>(nomatch h),val:=rfl,sign:=fun h=>(nomatch h)}
theorem Lg.small {x:Nat} (h0:x≠0) (h:x<18446744073709551616) (s:Bool):Lg (vn s x) s [x]:=⟨Wd.one h,fun d hd=>by simp at hd; omega,by simp[vn,vl],fun _=>by simp⟩
theorem Lg.FG {z:Int} {s:Bool} {l:List Nat} (h:Lg z s l):s=decide (z<0):=by
 have a:=h.val;have hz:=iN h.last;cases s with
 | false=>simp only[Bool.false_eq_true,if_false] at a; rw[decide_eq_false (by omega)]
 | true =>
  simp only[if_true] at a;have:vl l≠0:=fun e=>h.sign rfl (hz.1 e);rw[decide_eq_true (by omega)]
theorem Lg.abs {z:Int} {s:Bool} {l:List Nat} (h:Lg z s l):vl l=z.natAbs:=by
 have a:=h.val;cases s<;>simp only[Bool.false_eq_true,if_false,if_true] at a<;>omega
theorem Lg.LZ {z:Int} {s:Bool} {l:List Nat} (h:Lg z s l):l = []↔z=0:=by
 rw[←iN h.last,h.abs]; omega
theorem Lg.K5 {z:Int} {s:Bool} {l:List Nat} (h:Lg z s l) (hz:z≠0) (hb:z.natAbs<18446744073709551616):l = [z.natAbs]:=by
 have hl:l≠[]:=fun e=>hz (h.LZ.1 e);exact Dw h.wd (Wd.one hb) h.last (fun d hd=>by simp at hd; omega) (by rw[h.abs]; simp[vl])
theorem j6 {n:Nat} (s:Bool) {l:List Nat} (hl:Wd l) (hb:l.length<4611686018427387904) (hn:l.length<n) :
  ∃t k,ze n s l=some (t,k)∧Lg (vn s (vl l)) t k:=by
 have hL:∀i m,i≤l.length→i<m→vl (l.drop i)=0→∃j,bL (pY n l) m ((i:Nat):Int)=some ((j:Nat):Int)∧j≤l.length∧vl (l.drop j)=0∧∀d,(l.take j).getLast? = some d→d≠0:=by
  intro i
  induction i with
  | zero =>
   intro m _ hm h0;obtain⟨m,rfl⟩:∃m',m=m'+1:=⟨m-1,by omega⟩
   refine⟨0,dB ?_,Nat.zero_le _,h0,fun d hd=>by simp at hd⟩
   unfold pY;rw[cz (by decide)]; rfl
  | succ i ih =>
   intro m hi hm h0;obtain⟨m,rfl⟩:∃m',m=m'+1:=⟨m-1,by omega⟩
   have hi':i<l.length:=hi;have e0:IntKind.wrap .i64 (((i+1:Nat):Int)-1)=((i:Nat):Int):=by rw[dw (by omega) (by omega)]; omega
   have e1:l[((i:Nat):Int).toNat]? = some l[i]:=by simp[hi']
   have e2:l[i]? = some l[i]:=by simp[hi']
   by_cases hz:l[i]=0
   ·have:pY n l ((i+1:Nat):Int)=some (.inl ((i:Nat):Int)):=by
     unfold pY;rw[cj (by omega),e0,aO hi',bD,e1,aA,aA,cj hz]
    rw[du this];exact ih m (Nat.le_of_lt hi') (by omega) (by rw[k8 e2,hz,h0])
   ·refine⟨i+1,dB ?_,hi,h0,fun d hd=>?_⟩
    ·unfold pY;rw[cj (by omega),e0,aO hi',bD,e1,aA,aA,cz hz]
    ·rw[List.getLast?_eq_getElem?,List.length_take,Nat.min_eq_left hi,Nat.add_sub_cancel,List.getElem?_take_of_lt (Nat.lt_succ_self i),e2] at hd;cases hd;exact hz
 obtain⟨j,h1,h2,h3,h4⟩:=hL l.length n (Nat.le_refl _) hn (by rw[List.drop_length]; rfl)
 have hv:vl l=vl (l.take j):=by rw[eW l j h2,h3]; omega
 have hk:okB 0 ((j:Nat):Int) l.length=true:=decide_eq_true ⟨by omega,by omega,by omega⟩
 have ht:(l.drop (0:Int).toNat).take (((j:Nat):Int).toNat-(0:Int).toNat)=l.take j:=by simp
 have hz:=iN h4;unfold ze;rw[h1,aA];cases s with
 | false =>
  refine⟨false,l.take j,?_,hl.take j,h4,?_,fun h=>nomatch h⟩
  ·rw[jx,hk,bD,ht]
  ·rw[hv]; rfl
 | true =>
  refine⟨decide (0<((j:Nat):Int)),l.take j,?_,hl.take j,h4,?_,fun h e=>?_⟩
  ·rw[jR,hk,bD,ht]
  ·rw[hv]
   by_cases hj:0<((j:Nat):Int)
   ·rw[decide_eq_true hj]; rfl
   ·have:j=0:=by omega
    subst this
    rfl
  ·have h5:=of_decide_eq_true h;have:=congrArg List.length e;rw[List.length_take,Nat.min_eq_left h2] at this;simp at this;omega
theorem rq (l:List Nat) (i:Nat):∃y,vl (l.drop i)=y+18446744073709551616*vl (l.drop (i+1))∧(Wd l→y<18446744073709551616) ∧
  (br (decide (((i:Nat):Int)<(l.length:Int))) (gd (bJ ((i:Nat):Int) l.length) (ob (l[((i:Nat):Int).toNat]?) fun x=>some x)) (some 0))=some y:=by
 by_cases h:i<l.length
 ·have e2:l[i]? = some l[i]:=by simp[h]
  exact⟨l[i],k8 e2,fun w=>w.at e2,by rw[cj (by omega),aO h,bD,Int.toNat_natCast,e2]; rfl⟩
 ·refine⟨0,?_,fun _=>by decide,by rw[cz (by omega)]⟩
  rw[List.drop_eq_nil_of_le (by omega),List.drop_eq_nil_of_le (by omega)]; rfl
theorem vK {a:List Nat} {k e d:Nat}:(a++e::List.replicate k 0).set a.length d=(a++[d])++List.replicate k 0:=by
 rw[List.set_append_right _ _ (Nat.le_refl _),Nat.sub_self,List.set_cons_zero,List.append_assoc]; rfl
theorem oU (a:List Nat) (d:Nat):vl (a++[d])=vl a+wp a.length*d:=by rw[wH,fA,j8]; rfl
theorem Iu {n:Nat} {l k:List Nat} (hl:Wd l) (hk:Wd k) (hb:l.length<1073741824) (hb':k.length<1073741824) (hn:l.length<n) (hn':k.length<n) :
  ∃r,J0 n l k=some r∧Wd r∧vl r=vl l+vl k∧r.length≤l.length+k.length+1:=by
 have key:∀a b:List Nat,Wd a→Wd b→a.length<1073741824→b.length≤a.length→a.length<n→∃r,(gd (decide (0≤IntKind.wrap .i64 ((a.length:Int)+1))) (gd (mS ((IntKind.wrap .i64 ((a.length:Int)+1)).toNat)) (
   ob (bL (p7 n a b) n ((List.replicate (IntKind.wrap .i64 ((a.length:Int)+1)).toNat (0:Nat)),(IntKind.wrap .i64 ((a.length:Int)+1)).toNat,0,0)) fun(l1,n0,v0) =>
   gd (bJ (a.length:Int) n0) (ob (l1[(a.length:Int).toNat]?) fun x3=>some (l1.set ((a.length:Int).toNat) v0)))))=some r∧Wd r∧vl r=vl a+vl b∧r.length=a.length+1:=by
  intro a b ha h4 hba hab hna;have w0:IntKind.wrap .i64 ((a.length:Int)+1)=((a.length+1:Nat):Int):=by rw[dw (by omega) (by omega)]; rfl
  have hL:∀j i m p c,i+j=a.length→j<m→p.length=i→Wd p→c≤1→vl p+wp i*(c+vl (a.drop i)+vl (b.drop i))=vl a+vl b →
    ∃q c',bL (p7 n a b) m (p++List.replicate (j+1) 0,a.length+1,c,((i:Nat):Int))=some (q++[0],a.length+1,c')∧q.length=a.length∧Wd q∧c'≤1∧vl q+wp a.length*c'=vl a+vl b:=by
   intro j
   induction j with
   | zero =>
    intro i m p c hij hm hp wp' hc hv;obtain⟨m,rfl⟩:∃m',m=m'+1:=⟨m-1,by omega⟩
    have hi:i=a.length:=by omega
    refine⟨p,c,dB ?_,by omega,wp',hc,?_⟩
    ·unfold p7
     dsimp only
     rw[cz (by omega)]; rfl
    ·subst hi;rw[List.drop_length,List.drop_eq_nil_of_le (by omega),j8] at hv
     simpa using hv
   | succ j ih =>
    intro i m p c hij hm hp wp' hc hv;obtain⟨m,rfl⟩:∃m',m=m'+1:=⟨m-1,by omega⟩
    have hi:i<a.length:=by omega
    obtain⟨x,e0⟩:∃x,a[i]? = some x:=⟨a[i],by simp[hi]⟩
    have hx:=ha.at e0;obtain⟨y,y1,y2,y3⟩:=rq b i;have y2:=y2 h4;have e1:(p++List.replicate (j+1+1) 0)[((i:Nat):Int).toNat]? = some 0:=by
     rw[Int.toNat_natCast,List.getElem?_append_right (by omega),List.getElem?_replicate]; simp; omega
    have st:p7 n a b (p++List.replicate (j+1+1) 0,a.length+1,c,((i:Nat):Int))=some (.inl ((p++[(x+y+c)%18446744073709551616])++List.replicate (j+1) 0,a.length+1,(x+y+c)/18446744073709551616,((i+1:Nat):Int))):=by
     unfold p7
     dsimp only
     rw[cj (by omega),aO hi,bD,Int.toNat_natCast,e0,aA]
     rw[Int.toNat_natCast] at y3 e1;rw[y3,aA];unfold sO;rw[dm hc,aA]
     dsimp only
     rw[aO (show i<a.length+1 by omega),bD,e1,aA,cT (by omega),←hp,List.replicate_succ,vK]
    rw[du st];refine ih (i+1) m _ _ (by omega) (by omega) (by rw[List.length_append,hp]; rfl) (wp'.app (Wd.one (Nat.mod_lt _ (by decide)))) (by omega) ?_
    rw[←hv,oU,hp,gS,k8 e0,y1];have h1:∀s:Nat,s=s%18446744073709551616+18446744073709551616*(s/18446744073709551616):=fun s=>(Nat.mod_add_div s _).symm;have h0:=h1 (x+y+c);generalize (x+y+c)%18446744073709551616=lo at h0 ⊢;generalize (x+y+c)/18446744073709551616=hi' at h0 ⊢;have h2:c+(x+18446744073709551616*vl (a.drop (i+1)))+(y+18446744073709551616*vl (b.drop (i+1)))=lo+18446744073709551616*(hi'+vl (a.drop (i+1))+vl (b.drop (i+1))):=by omega
    rw[h2,Nat.mul_add (wp i),Nat.mul_left_comm (wp i),←Nat.mul_assoc,Nat.add_assoc,Nat.add_assoc]
  obtain⟨q,c',h1,h0,h2,h3,h5⟩:=hL a.length 0 n [] 0 (by omega) hna rfl Wd.nil (by omega) (by simp[vl,wp])
  refine⟨q++[c'],?_,h2.app (Wd.one (by omega)),by rw[oU,h0,h5],by rw[List.length_append,h0]; rfl⟩
  rw[w0,dm (by omega)]
  have hlim:mS ((a.length+1:Nat):Int).toNat=true:=nG (by omega)
  rw[hlim,bD,Int.toNat_natCast];rw[show(List.replicate (a.length+1) (0:Nat),a.length+1,(0:Nat),(0:Int))=(([]:List Nat)++List.replicate (a.length+1) 0,a.length+1,0,((0:Nat):Int)) from rfl,h1,aA]
  dsimp only
  rw[aO (Nat.lt_succ_self _),bD,Int.toNat_natCast,←h0,List.getElem?_append_right (Nat.le_refl _),Nat.sub_self];rw[show([0]:List Nat)[0]? = some 0 from rfl,aA,List.set_append_right _ _ (Nat.le_refl _),Nat.sub_self]
  rfl
 unfold J0
 by_cases h:l.length<k.length
 ·rw[cj (by omega),aA]
  obtain⟨r,h1,h0,h2,h3⟩:=key k l hk hl hb' (Nat.le_of_lt h) hn';exact⟨r,h1,h0,by omega,by omega⟩
 ·rw[cz (by omega),aA]
  obtain⟨r,h1,h0,h2,h3⟩:=key l k hl hk hb (by omega) hn
  exact⟨r,h1,h0,h2,by omega⟩
theorem HQ {n:Nat} {l k:List Nat} (hl:Wd l) (hk:Wd k) (ll:∀d,l.getLast? = some d→d≠0) (lk:∀d,k.getLast? = some d→d≠0) (hb:l.length<1073741824) (hb':k.length<1073741824) (hn:l.length<n) :
  ∃r:Int,I8 n l k=some r∧(r<0↔vl l<vl k)∧(0<r↔vl k<vl l):=by
 have big:∀a b:List Nat,Wd a→(∀d,b.getLast? = some d→d≠0)→a.length<b.length→vl a<vl b:=by
  intro a b ha hb h;have h1:=rK ha;have h2:=tU hb (by intro e; rw[e] at h; exact Nat.not_lt_zero _ h)
  have h3:wp a.length≤wp (b.length-1):=Nat.pow_le_pow_right (by decide) (by omega)
  omega
 unfold I8
 by_cases h:l.length=k.length
 ·rw[decide_eq_true (show(l.length:Int)=(k.length:Int) by omega),Bool.not_true,jx]
  have hL:∀i m,i≤l.length→i<m→vl (l.drop i)=vl (k.drop i)→∃r,bL (oj n l k) m ((i:Int)-1)=some r ∧
    ((r = .inl (-1)∧vl l<vl k)∨(r = .inl 1∧vl k<vl l)∨(r = .inr ()∧vl l=vl k)):=by
   intro i
   induction i with
   | zero =>
    intro m _ hm h0;obtain⟨m,rfl⟩:∃m',m=m'+1:=⟨m-1,by omega⟩
    refine⟨.inr (),dB ?_,.inr (.inr ⟨rfl,by simpa using h0⟩)⟩
    unfold oj;rw[cz (by decide)]
   | succ i ih =>
    intro m hi hm h0;obtain⟨m,rfl⟩:∃m',m=m'+1:=⟨m-1,by omega⟩
    obtain⟨x,e2⟩:∃x,l[i]? = some x:=⟨l[i],by simp⟩
    obtain⟨y,e3⟩:∃y,k[i]? = some y:=⟨k[i],by simp⟩
    have a1:=k8 e2;have a2:=k8 e3;have a3:=eW l i (by omega)
    have a4:=eW k i (by omega)
    have t1:=rK (hl.take i);have t2:=rK (hk.take i);rw[List.length_take,Nat.min_eq_left (by omega)] at t1 t2
    have e0:((i+1:Nat):Int)-1=((i:Nat):Int):=by omega
    rw[e0];rcases Nat.lt_trichotomy x y with hxy|hxy|hxy
    ·refine⟨.inl (-1),dB ?_,.inl ⟨rfl,?_⟩⟩
     ·unfold oj;rw[cj (by omega),aO (by omega),bD,Int.toNat_natCast,e2,aA,aO (by omega),bD,e3,aA,cj hxy]
     ·have:wp i*(vl (l.drop i)+1)≤wp i*vl (k.drop i):=Nat.mul_le_mul_left _ (by omega)
      rw[Nat.mul_add] at this;omega
    ·have st:oj n l k ((i:Nat):Int)=some (.inl (((i:Nat):Int)-1)):=by
      unfold oj;rw[cj (by omega),aO (by omega),bD,Int.toNat_natCast,e2,aA,aO (by omega),bD,e3,aA,cz (by omega),bD,bD,cz (by omega),dw (by omega) (by omega)]
     rw[du st];exact ih m (by omega) (by omega) (by omega)
    ·refine⟨.inl 1,dB ?_,.inr (.inl ⟨rfl,?_⟩)⟩
     ·unfold oj;rw[cj (by omega),aO (by omega),bD,Int.toNat_natCast,e2,aA,aO (by omega),bD,e3,aA,cz (by omega),bD,bD,cj hxy]
     ·have:wp i*(vl (k.drop i)+1)≤wp i*vl (l.drop i):=Nat.mul_le_mul_left _ (by omega)
      rw[Nat.mul_add] at this;omega
  obtain⟨r,h1,h2⟩:=hL l.length n (Nat.le_refl _) hn (by rw[List.drop_length,h,List.drop_length])
  rw[dw (by omega) (by omega),h1,aA]
  rcases h2 with⟨rfl,h2⟩|⟨rfl,h2⟩|⟨rfl,h2⟩
  ·exact⟨-1,rfl,by omega,by omega⟩
  ·exact⟨1,rfl,by omega,by omega⟩
  ·exact⟨0,rfl,by omega,by omega⟩
 ·rw[decide_eq_false (show ¬(l.length:Int)=(k.length:Int) by omega),Bool.not_false,jR]
  refine⟨_,rfl,?_,?_⟩<;>rw[dw (by omega) (by omega)]
  ·refine⟨fun h1=>big l k hl lk (by omega),fun h1=>?_⟩
   by_cases h2:l.length<k.length
   ·omega
   ·have:=big k l hk ll (by omega); omega
  ·refine⟨fun h1=>big k l hk ll (by omega),fun h1=>?_⟩
   by_cases h2:k.length<l.length
   ·omega
   ·have:=big l k hl lk (by omega); omega
theorem Cl {n:Nat} {l k:List Nat} (hl:Wd l) (hk:Wd k) (hle:vl k≤vl l) (hlk:k.length≤l.length) (hb:l.length<1073741824) (hn:l.length<n) :
  ∃r,I6 n l k=some r∧Wd r∧vl r=vl l-vl k∧r.length=l.length:=by
 have hL:∀j i m p c,i+j=l.length→j<m→p.length=i→Wd p→c≤1→vl p+wp i*vl (l.drop i)+vl k=vl l+wp i*(c+vl (k.drop i)) →
   ∃q c',bL (rF n l k) m (p++List.replicate j 0,c,((i:Nat):Int))=some q∧q.length=l.length∧Wd q∧c'≤1∧vl q+vl k=vl l+wp l.length*c':=by
  intro j
  induction j with
  | zero =>
   intro i m p c hij hm hp wp' hc hv;obtain⟨m,rfl⟩:∃m',m=m'+1:=⟨m-1,by omega⟩
   have hi:i=l.length:=by omega
   refine⟨p,c,dB ?_,by omega,wp',hc,?_⟩
   ·unfold rF
    dsimp only
    rw[cz (by omega),List.replicate_zero,List.append_nil]
   ·subst hi;rw[List.drop_length,List.drop_eq_nil_of_le (by omega),j8] at hv
    simpa using hv
  | succ j ih =>
   intro i m p c hij hm hp wp' hc hv;obtain⟨m,rfl⟩:∃m',m=m'+1:=⟨m-1,by omega⟩
   have hi:i<l.length:=by omega
   obtain⟨x,e2⟩:∃x,l[i]? = some x:=⟨l[i],by simp[hi]⟩
   have hx:=hl.at e2;obtain⟨y,y1,y2,y3⟩:=rq k i;have y2:=y2 hk;have e3:(p++List.replicate (j+1) 0)[((i:Nat):Int).toNat]? = some 0:=by
    rw[Int.toNat_natCast,List.getElem?_append_right (by omega),List.getElem?_replicate]; simp; omega
   have st:rF n l k (p++List.replicate (j+1) 0,c,((i:Nat):Int))=some (.inl ((p++[(x+18446744073709551616-y-c)%18446744073709551616])++List.replicate j 0,if x<y+c then 1 else 0,((i+1:Nat):Int))):=by
    unfold rF
    dsimp only
    rw[cj (by omega),aO hi,bD,Int.toNat_natCast,e2,aA]
    rw[Int.toNat_natCast] at y3 e3;rw[y3,aA];unfold Fj;rw[dm hc,aA]
    dsimp only
    rw[Int.toNat_natCast,aO hi,bD,e3,aA,cT (by omega),←hp,List.replicate_succ,vK]
   rw[du st];refine ih (i+1) m _ _ (by omega) (by omega) (by rw[List.length_append,hp]; rfl) (wp'.app (Wd.one (Nat.mod_lt _ (by decide)))) (by split<;>omega) ?_
   rw[k8 e2,y1] at hv;rw[oU,hp,gS];have h2:(x+18446744073709551616-y-c)%18446744073709551616+y+c=x+18446744073709551616*(if x<y+c then 1 else 0):=by split<;>omega
   generalize (x+18446744073709551616-y-c)%18446744073709551616=lo at h2 ⊢;generalize (if x<y+c then 1 else 0)=hi' at h2 ⊢
   generalize vl (l.drop (i+1))=A at hv ⊢;generalize vl (k.drop (i+1))=D at hv ⊢;have h3:wp i*(lo+y+c)=wp i*(x+18446744073709551616*hi'):=by rw[h2]
   simp only[Nat.mul_add,Nat.mul_left_comm (wp i) 18446744073709551616,Nat.mul_assoc] at hv h3 ⊢;omega
 obtain⟨q,c',h1,h2,h3,h4,h5⟩:=hL l.length 0 n [] 0 (by omega) hn rfl Wd.nil (by omega) (by simp[vl,wp])
 refine⟨q,?_,h3,?_,h2⟩
 ·unfold I6;rw[dm (by omega),Int.toNat_natCast,nG (by omega),bD]
  rw[show(List.replicate l.length (0:Nat),(0:Nat),(0:Int))=(([]:List Nat)++List.replicate l.length 0,0,((0:Nat):Int)) from rfl,h1,aA]
 ·have h6:=rK h3;rw[h2] at h6;have:c'=0:=by
   rcases Nat.le_one_iff_eq_zero_or_eq_one.1 h4 with e|e
   ·exact e
   ·rw[e] at h5; omega
  rw[this] at h5;omega
theorem vG (s:Bool):vn s 0=0:=by cases s<;>rfl
theorem Bu {n:Nat} {a b:Int} {s t:Bool} {l k:List Nat} (h:Lg a s l) (h':Lg b t k) (hb:l.length<1000000) (hb':k.length<1000000) (hn:l.length+k.length+1<n) :
  ∃u m,A2 n s l t k=some (u,m)∧Lg (a+b) u m:=by
 have av:=h.val;have bv:=h'.val;unfold A2
 by_cases e:s=t
 ·subst e;rw[beq_self_eq_true,jR];obtain⟨r,r1,r2,r3,r4⟩:=Iu (n:=n) h.wd h'.wd (by omega) (by omega) (by omega) (by omega)
  obtain⟨u,m,m1,m2⟩:=j6 (n:=n) s r2 (by omega) (by omega)
  refine⟨u,m,by rw[r1,aA,m1]; rfl,?_⟩
  have:a+b=vn s (vl r):=by rw[av,bv,r3]; unfold vn; cases s<;>simp<;>omega
  rw[this]; exact m2
 ·have:(s == t)=false:=by cases s<;>cases t<;>simp_all
  rw[this,jx];obtain⟨r,r1,r2,r3⟩:=HQ (n:=n) h.wd h'.wd h.last h'.last (by omega) (by omega) (by omega)
  have ht:t = !s:=by cases s<;>cases t<;>simp_all
  have longer:∀p q:List Nat,Wd p→Wd q→(∀d,p.getLast? = some d→d≠0)→(∀d,q.getLast? = some d→d≠0)→vl p≤vl q→p.length≤q.length:=by
   intro p q wp1 wq1 lp lq hle;refine Nat.le_of_not_lt fun hlt=>?_;have h1:=rK wq1;have h2:=tU lp (by intro e; rw[e] at hlt; exact Nat.not_lt_zero _ hlt)
   have h3:wp q.length≤wp (p.length-1):=Nat.pow_le_pow_right (by decide) (by omega)
   omega
  rw[r1,aA]
  by_cases hr:r<0
  ·have hv:=r2.1 hr;obtain⟨m,m1,m2,m3,m4⟩:=Cl (n:=n) h'.wd h.wd (Nat.le_of_lt hv) (longer _ _ h.wd h'.wd h.last h'.last (Nat.le_of_lt hv)) (by omega) (by omega)
   obtain⟨u,m',u1,u2⟩:=j6 (n:=n) t m2 (by omega) (by omega)
   refine⟨u,m',by rw[cj hr,aA]; dsimp only; rw[m1,aA,u1]; rfl,?_⟩
   have:a+b=vn t (vl m):=by rw[av,bv,m3,ht]; unfold vn; cases s<;>simp<;>omega
   rw[this]; exact u2
  ·have hv:vl k≤vl l:=Nat.le_of_not_lt fun h=>hr (r2.2 h);obtain⟨m,m1,m2,m3,m4⟩:=Cl (n:=n) h.wd h'.wd hv (longer _ _ h'.wd h.wd h'.last h.last hv) (by omega) (by omega)
   obtain⟨u,m',u1,u2⟩:=j6 (n:=n) s m2 (by omega) (by omega)
   refine⟨u,m',by rw[cz hr,aA]; dsimp only; rw[m1,aA,u1]; rfl,?_⟩
   have:a+b=vn s (vl m):=by rw[av,bv,m3,ht]; unfold vn; cases s<;>simp<;>omega
   rw[this]; exact u2
theorem Hk {n:Nat} {a:Int} {s:Bool} {l:List Nat} (h:Lg a s l) (hb:l.length<1000000) (hn:l.length<n):∃u m,Hn n s l=some (u,m)∧Lg (-a) u m:=by
 obtain⟨u,m,m1,m2⟩:=j6 (n:=n) (!s) h.wd (by omega) hn
 refine⟨u,m,by unfold Hn; rw[m1]; rfl,?_⟩
 have : -a=vn (!s) (vl l):=by rw[h.val]; unfold vn; cases s<;>simp
 rw[this]; exact m2
theorem Lg.len {a:Int} {s:Bool} {l:List Nat} (h:Lg a s l) {k:Nat} (hk:a.natAbs<wp k):l.length≤k:=by
 refine Nat.le_of_not_lt fun hlt=>?_;have h2:=tU h.last (by intro e; rw[e] at hlt; exact Nat.not_lt_zero _ hlt)
 have h3:wp k≤wp (l.length-1):=Nat.pow_le_pow_right (by decide) (by omega)
 have:=h.abs;omega
theorem Lg.up {a:Int} {s:Bool} {l:List Nat} (h:Lg a s l):a.natAbs<wp l.length:=by
 rw[←h.abs]; exact rK h.wd
theorem HZ {n:Nat} {a b:Int} {s t:Bool} {l k:List Nat} (h:Lg a s l) (h':Lg b t k) (hb:l.length<1000000) (hb':k.length<1000000) (hn:l.length+k.length+1<n) :
  ∃u m,IU n s l t k=some (u,m)∧Lg (a-b) u m:=by
 obtain⟨u,m,m1,m2⟩:=Hk (n:=n) h' hb' (by omega)
 have hm:m.length≤k.length:=m2.len (by rw[Int.natAbs_neg]; exact h'.up)
 obtain⟨v,q,q1,q2⟩:=Bu (n:=n) h m2 hb (by omega) (by omega)
 exact⟨v,q,by unfold IU; rw[m1,aA]; dsimp only; rw[q1]; rfl,q2⟩
theorem Il {n:Nat} {a:Int} {s:Bool} {l:List Nat} (h:Lg a s l):∃r,D4 n s l=some r∧(r<0↔a<0)∧(r=0↔a=0):=by
 have h1:=h.FG;have h2:=h.LZ;unfold D4;cases s with
 | true =>
  have:=of_decide_eq_true h1.symm;exact⟨-1,rfl,by omega,by omega⟩
 | false =>
  have:=of_decide_eq_false h1.symm;rw[jx]
  by_cases hl:l = []
  ·subst hl;have:=h2.1 rfl;exact⟨0,rfl,by omega,by omega⟩
  ·have:¬a=0:=fun e=>hl (h2.2 e);have:¬(l.length:Int)=0:=fun e=>hl (List.eq_nil_of_length_eq_zero (by omega))
   rw[cz this];exact⟨1,rfl,by omega,by omega⟩
theorem uS {a:Nat} (ha:a<18446744073709551616):uw .u64 (uw .u64 a &&& uw .u64 4294967295)=a%4294967296:=by
 rw[vH ha (by decide)]
 exact Nat.and_two_pow_sub_one_eq_mod a 32
theorem Ch (a:Nat):bZ .u64 a 32=a/4294967296:=rfl
theorem oq {a:Nat} (h:a<18446744073709551616):uw .u64 a=a:=Nat.mod_eq_of_lt h
theorem FQ (n:Nat) {x y:Nat} (hx:x<18446744073709551616) (hy:y<18446744073709551616):AK n x y=some (x*y/18446744073709551616,x*y%18446744073709551616):=by
 obtain⟨b1,b2,b3,hhi⟩:=Lib.mul64_hi x y hx hy;have ba:=Lib.half_mul_le (a:=x/4294967296) (b:=y/4294967296) (by omega) (by omega)
 have bb:=Lib.half_mul_le (a:=x/4294967296) (b:=y%4294967296) (by omega) (by omega)
 have bc:=Lib.half_mul_le (a:=x%4294967296) (b:=y/4294967296) (by omega) (by omega)
 unfold AK;simp only[uS hx,uS hy,Ch,aA];rw[oq b1,oq (a:=x/4294967296*(y%4294967296)) (by omega)]
 rw[oq b2,uS b2,oq (a:=x%4294967296*(y/4294967296)) (by omega),oq b3,oq (a:=x/4294967296*(y/4294967296)) (by omega)]
 rw[oq (a:=x/4294967296*(y/4294967296)+_) (by omega),oq (by omega),hhi]
 rfl
theorem Fk {n:Nat} {k:List Nat} (hk:Wd k) {x i N:Nat} (hx:x<18446744073709551616) (hN:i+k.length<N) (hNb:N<4611686018427387904) {b:List Nat} (hb:Wd b) (hbN:b.length=N) :
  ∀r j m cur c,j+r=k.length→r<m→Wd cur→cur.length=N→c<18446744073709551616→(∀p,i+k.length≤p→cur[p]? = b[p]?) →
   vl cur+wp (i+j)*c+wp (i+j)*(x*vl (k.drop j))=vl b+wp i*(x*vl k) →
   ∃q c',bL (nq n k x (i:Int) N) m (cur,c,((j:Nat):Int))=some (q,c')∧Wd q∧q.length=N∧c'<18446744073709551616∧(∀p,i+k.length≤p→q[p]? = b[p]?)∧vl q+wp (i+k.length)*c'=vl b+wp i*(x*vl k):=by
 intro r
 induction r with
 | zero =>
  intro j m cur c hj hm hw hl hc hp hv;obtain⟨m,rfl⟩:∃m',m=m'+1:=⟨m-1,by omega⟩
  have hj':j=k.length:=by omega
  refine⟨cur,c,dB ?_,hw,hl,hc,hp,?_⟩
  ·unfold nq
   dsimp only
   rw[cz (by omega)]
  ·rw[←hv,hj',List.drop_length,j8]; omega
 | succ r ih =>
  intro j m cur c hj hm hw hl hc hp hv;obtain⟨m,rfl⟩:∃m',m=m'+1:=⟨m-1,by omega⟩
  have hi:j<k.length:=by omega
  obtain⟨y,e2⟩:∃y,k[j]? = some y:=⟨k[j],by simp[hi]⟩
  have hy:=hk.at e2;obtain⟨d,e3⟩:∃d,cur[i+j]? = some d:=⟨cur[i+j]'(by omega),by simp⟩
  have hd:=hw.at e3;have hxy:x*y≤18446744073709551615*18446744073709551615:=Nat.mul_le_mul (by omega) (by omega)
  have w1:IntKind.wrap .i64 ((i:Int)+((j:Nat):Int))=((i+j:Nat):Int):=by rw[dw (by omega) (by omega)]; omega
  have st:nq n k x (i:Int) N (cur,c,((j:Nat):Int))=some (.inl (cur.set (i+j) ((x*y+d+c)%18446744073709551616),(x*y+d+c)/18446744073709551616,((j+1:Nat):Int))):=by
   unfold nq
   dsimp only
   rw[cj (by omega),aO hi,bD,Int.toNat_natCast,e2,aA,FQ n hx hy,aA]
   dsimp only
   rw[w1,aO (by omega),bD,Int.toNat_natCast,e3,aA]
   unfold sO;rw[dm (by omega),aA]
   dsimp only
   rw[dm (by omega),aA]
   dsimp only
   rw[bD,cT (by omega),oq (a:=x*y/18446744073709551616+_) (by omega),oq (by omega)]
   congr 3
   ·congr 1; omega
   ·congr 1; omega
  rw[du st];refine ih (j+1) m _ _ (by omega) (by omega) (hw.set (Nat.mod_lt _ (by decide))) (by rw[List.length_set]; exact hl) (by omega) (fun p hp'=>by rw[List.getElem?_set_ne (by omega)]; exact hp p hp') ?_
  rw[k8 e2] at hv;have hs:=Ck ((x*y+d+c)%18446744073709551616) e3;rw[←hv,←Nat.add_assoc i j 1,gS];have h2:(x*y+d+c)%18446744073709551616+18446744073709551616*((x*y+d+c)/18446744073709551616)=x*y+d+c:=Nat.mod_add_div _ _;generalize (x*y+d+c)%18446744073709551616=lo at h2 hs ⊢;generalize (x*y+d+c)/18446744073709551616=hi' at h2 ⊢;generalize vl (k.drop (j+1))=A at hv ⊢;generalize vl (cur.set (i+j) lo)=Z at hs ⊢;have h3:wp (i+j)*(lo+18446744073709551616*hi')=wp (i+j)*(x*y+d+c):=by rw[h2]
  simp only[Nat.mul_add,Nat.mul_left_comm (wp (i+j)) 18446744073709551616,Nat.mul_left_comm x 18446744073709551616,Nat.mul_assoc] at hs h3 ⊢;omega
theorem E8 {n:Nat} {l k:List Nat} (hl:Wd l) (hk:Wd k) (hb:l.length<500000000) (hb':k.length<500000000) (hn:l.length<n) (hn':k.length<n) :
  ∃r,Bf n l k=some r∧Wd r∧vl r=vl l*vl k∧r.length=l.length+k.length:=by
 have hL:∀r i m b,i+r=l.length→r<m→Wd b→b.length=l.length+k.length→(∀p,i+k.length≤p→p<l.length+k.length→b[p]? = some 0) →
   vl b+wp i*(vl (l.drop i)*vl k)=vl l*vl k →
   ∃q,bL (nE n l k) m (b,l.length+k.length,((i:Nat):Int))=some (q,l.length+k.length)∧Wd q∧q.length=l.length+k.length∧vl q=vl l*vl k:=by
  intro r
  induction r with
  | zero =>
   intro i m b hi hm hw hlen _ hv;obtain⟨m,rfl⟩:∃m',m=m'+1:=⟨m-1,by omega⟩
   have hi':i=l.length:=by omega
   refine⟨b,dB ?_,hw,hlen,?_⟩
   ·unfold nE
    dsimp only
    rw[cz (by omega)]
   ·rw[←hv,hi',List.drop_length,j8]; simp
  | succ r ih =>
   intro i m b hi hm hw hlen hz hv;obtain⟨m,rfl⟩:∃m',m=m'+1:=⟨m-1,by omega⟩
   have hi':i<l.length:=by omega
   obtain⟨x,e2⟩:∃x,l[i]? = some x:=⟨l[i],by simp⟩
   have hx:=hl.at e2;obtain⟨q,c,q1,q2,q3,q4,q5,q6⟩:=Fk (n:=n) (i:=i) hk hx (N:=l.length+k.length) (by omega) (by omega) hw hlen k.length 0 n b 0 (by omega) hn' hw hlen (by decide) (fun _ _=>rfl) (by simp)
   have e3:q[i+k.length]? = some 0:=by rw[q5 _ (Nat.le_refl _)]; exact hz _ (Nat.le_refl _) (by omega)
   have w1:IntKind.wrap .i64 ((i:Int)+(k.length:Int))=((i+k.length:Nat):Int):=by rw[dw (by omega) (by omega)]; omega
   have st:nE n l k (b,l.length+k.length,((i:Nat):Int))=some (.inl (q.set (i+k.length) c,l.length+k.length,((i+1:Nat):Int))):=by
    unfold nE
    dsimp only
    rw[cj (by omega),aO hi',bD,Int.toNat_natCast,e2,aA]
    rw[show((0:Int))=((0:Nat):Int) from rfl,q1,aA]
    dsimp only
    rw[w1,aO (by omega),bD,Int.toNat_natCast,e3,aA,cT (by omega)]
   rw[du st];refine ih (i+1) m _ (by omega) (by omega) (q2.set q4) (by rw[List.length_set]; exact q3) (fun p h1 h2=>by rw[List.getElem?_set_ne (by omega),q5 p (by omega)]; exact hz p (by omega) h2) ?_
   have hs:=Ck c e3;rw[k8 e2] at hv;rw[←hv,gS];generalize vl (q.set (i+k.length) c)=Z at hs ⊢;generalize vl (l.drop (i+1))=A at hv ⊢;have h4:wp i*((x+18446744073709551616*A)*vl k)=wp i*(x*vl k)+18446744073709551616*wp i*(A*vl k):=by
    simp only[Nat.add_mul,Nat.mul_add,Nat.mul_assoc,Nat.mul_left_comm (wp i) 18446744073709551616]
   rw[h4];omega
 unfold Bf;have w1:IntKind.wrap .i64 ((l.length:Int)+(k.length:Int))=((l.length+k.length:Nat):Int):=by rw[dw (by omega) (by omega)]; omega
 obtain⟨q,q1,q2,q3,q4⟩:=hL l.length 0 n (List.replicate (l.length+k.length) 0) (by omega) hn (Wd.zeros _) (by simp) (fun p _ h2=>by rw[List.getElem?_replicate]; simp[h2]) (by rw[BM,Ef]; simp)
 refine⟨q,?_,q2,q4,q3⟩;rw[w1,dm (by omega),Int.toNat_natCast,nG (by omega),bD]
 rw[show((0:Int))=((0:Nat):Int) from rfl,q1]
 rfl
theorem BO {n:Nat} {a b:Int} {s t:Bool} {l k:List Nat} (h:Lg a s l) (h':Lg b t k) (hb:l.length<1000000) (hb':k.length<1000000) (hn:l.length+k.length<n) :
  ∃u m,Jb n s l t k=some (u,m)∧Lg (a*b) u m:=by
 obtain⟨r,r1,r2,r3,r4⟩:=E8 (n:=n) h.wd h'.wd (by omega) (by omega) (by omega) (by omega)
 obtain⟨u,m,m1,m2⟩:=j6 (n:=n) (!(s == t)) r2 (by omega) (by omega)
 refine⟨u,m,by unfold Jb; rw[r1,aA,m1]; rfl,?_⟩
 have:a*b=vn (!(s == t)) (vl r):=by
  rw[h.val,h'.val,r3]; unfold vn;cases s<;>cases t<;>simp[Int.neg_mul,Int.mul_neg]
 rw[this]; exact m2
theorem sv {a b:Nat} (ha:a<18446744073709551616) (h:b≤a):e9 .u64 a b=a-b:=by
 show(a+(18446744073709551616-b%18446744073709551616))%18446744073709551616=a-b
 omega
theorem AJ (n0:Nat) {u y1 y0 d:Nat} (h1:2147483648≤y1) (h1':y1<4294967296) (h0:y0<4294967296) (hd:d<4294967296) {Q:Nat} (le_iff:∀p,p≤Q↔p*y1*4294967296+p*y0≤u*4294967296+d) (hQb:Q<4294967296) :
  ∀k r q m,4294967296≤r+k*2147483648→k<m→q*y1+r=u→Q≤q→q≤4294967297→r<4294967296→bL (eV n0 d y0 y1) m (r,q)=some Q:=by
 intro k
 induction k with
 | zero=>intro r q m hk _ _ _ _ hr; omega
 | succ k ih =>
  intro r q m hk hm hq hQ hqb hr;obtain⟨m,rfl⟩:∃m',m=m'+1:=⟨m-1,by omega⟩
  by_cases hT:4294967296≤q∨4294967296*r+d<q*y0
  ·have hlt:Q<q:=by
    rcases hT with hT|hT
    ·omega
    ·refine Nat.lt_of_not_le fun h=>?_;rw[le_iff] at h;omega
   obtain⟨p,rfl⟩:∃p,q=p+1:=⟨q-1,by omega⟩
   rw[Nat.add_mul,Nat.one_mul] at hq;have test:(br (decide (4294967296≤p+1)) (some true) (some (decide (uw .u64 ((uw .u64 (4294967296*r))+d)<uw .u64 ((p+1)*y0)))))=some true:=by
    by_cases hb:4294967296≤p+1
    ·rw[cj hb]
    ·have h2:(p+1)*y0≤4294967295*4294967295:=Nat.mul_le_mul (by omega) (by omega)
     rw[cz hb,oq (a:=4294967296*r) (by omega),oq (by omega),oq (by omega),decide_eq_true (by omega)]
   have sb:e9 .u64 (p+1) 1=p:=sv (by omega) (by omega)
   by_cases hb:4294967296≤r+y1
   ·have st:eV n0 d y0 y1 (r,p+1)=some (.inr p):=by
     unfold eV
     dsimp only
     rw[test,aA,jR,oq (a:=r+y1) (by omega),cj hb,sb]
    rw[dB st];have h2:p*y0≤4294967296*4294967295:=Nat.mul_le_mul (by omega) (by omega)
    have h3:p≤Q:=by rw[le_iff]; omega
    rw[show p=Q by omega]
   ·have st:eV n0 d y0 y1 (r,p+1)=some (.inl (r+y1,p)):=by
     unfold eV
     dsimp only
     rw[test,aA,jR,oq (a:=r+y1) (by omega),cz hb,sb]
    rw[du st];exact ih (r+y1) p m (by omega) (by omega) (by omega) (by omega) (by omega) (by omega)
  ·have hq2:q<4294967296:=by omega
   have h2:q*y0≤4294967295*4294967295:=Nat.mul_le_mul (by omega) (by omega)
   have st:eV n0 d y0 y1 (r,q)=some (.inr q):=by
    unfold eV
    dsimp only
    rw[cz (by omega),oq (a:=4294967296*r) (by omega),oq (by omega),oq (by omega),aA,cz (by omega)]
   rw[dB st];have h3:q≤Q:=by rw[le_iff]; omega
   rw[show q=Q by omega]
theorem An (n0 y s y1 y0 d e:Nat):∀m q r,bL (pa n0) m (y,s,y1,y0,d,e,q,r)=(bL (eV n0 d y0 y1) m (r,q)).map fun q=>(y,s,y1,y0,d,e,q):=by
 intro m
 induction m with
 | zero=>intro q r; rfl
 | succ m ih =>
  intro q r;have a:∀b,(br b (br (decide (4294967296≤uw .u64 (r+y1))) (some (.inr (y,s,y1,y0,d,e,e9 .u64 q 1))) (some (.inl (y,s,y1,y0,d,e,e9 .u64 q 1,uw .u64 (r+y1))))) (some (.inr (y,s,y1,y0,d,e,q))):Option ((Nat × Nat × Nat × Nat × Nat × Nat × Nat × Nat) ⊕ (Nat × Nat × Nat × Nat × Nat × Nat × Nat))) =
   (br b (br (decide (4294967296≤uw .u64 (r+y1))) (some (.inr (e9 .u64 q 1))) (some (.inl (uw .u64 (r+y1),e9 .u64 q 1)))) (some (.inr q)):Option ((Nat × Nat) ⊕ Nat)).map fun x=>match x with | .inl (r,q)=>.inl (y,s,y1,y0,d,e,q,r) | .inr q=>.inr (y,s,y1,y0,d,e,q):=by
   intro b;cases b
   ·rfl
   ·rw[jR,jR];cases decide (4294967296≤uw .u64 (r+y1))<;>rfl
  have st:pa n0 (y,s,y1,y0,d,e,q,r)=(eV n0 d y0 y1 (r,q)).map fun x=>match x with | .inl (r,q)=>.inl (y,s,y1,y0,d,e,q,r) | .inr q=>.inr (y,s,y1,y0,d,e,q):=by
   unfold pa eV
   dsimp only
   cases(br (decide (4294967296≤q)) (some true) (some (decide (uw .u64 ((uw .u64 (4294967296*r))+d)<uw .u64 (q*y0)))):Option Bool) with
   | none=>rfl
   | some b=>exact a b
  unfold bL;rw[st];cases eV n0 d y0 y1 (r,q) with
  | none=>rfl
  | some x =>
   cases x with
   | inl p=>exact ih p.2 p.1
   | inr p=>rfl
theorem rM {a b:Nat} (h:b≤a) (hr:a-b<18446744073709551616):e9 .u64 (uw .u64 a) (uw .u64 b)=a-b:=by
 show(a%18446744073709551616+(18446744073709551616-b%18446744073709551616%18446744073709551616))%18446744073709551616=a-b
 omega
theorem HK {x:Nat} (h0:0<x):2 ^ (bl x-1)≤x∧x<2 ^ bl x∧0<bl x:=by
 have h1:0<bl x:=qb.2 (by simp; omega)
 refine⟨qb.1 (by omega),?_,h1⟩
 exact Nat.lt_of_not_le fun h=>Nat.lt_irrefl _ (qb.2 h)
theorem tF {a s:Nat} (h:s≤64):fX .u64 a s=uw .u64 (a*2 ^ s):=by
 have:min s (IntKind.bits .u64)=s:=Nat.min_eq_left h;unfold fX;rw[this]
theorem zt {a s:Nat} (h:s≤64):bZ .u64 a s=a/2 ^ s:=by
 have:min s (IntKind.bits .u64)=s:=Nat.min_eq_left h;unfold bZ;rw[this]
theorem yk {n:Nat} (hn:4<n) {u y1 y0 d:Nat} (h1:2147483648≤y1) (h1':y1<4294967296) (h0:y0<4294967296) (hd:d<4294967296) (hu:u<y1*4294967296+y0) :
  bL (eV n d y0 y1) n (e9 .u64 u (uw .u64 (uw .u64 (u/y1)*y1)),uw .u64 (u/y1))=some ((u*4294967296+d)/(y1*4294967296+y0)):=by
 have e1:=Nat.div_add_mod u y1;have e2:=Nat.mod_lt u (show 0<y1 by omega)
 rw[Nat.mul_comm] at e1;have hq:u/y1≤4294967297:=by
  have:u/y1<4294967298:=by rw[Nat.div_lt_iff_lt_mul (by omega)]; omega
  omega
 rw[oq (a:=u/y1) (by omega),oq (a:=u/y1*y1) (by omega),sv (by omega) (by omega)]
 have hy:0<y1*4294967296+y0:=by omega
 refine AJ n h1 h1' h0 hd (fun p=>by rw[Nat.le_div_iff_mul_le hy,Nat.mul_add,←Nat.mul_assoc]) (by rw[Nat.div_lt_iff_lt_mul hy]; omega) 2 _ _ n (by omega) (by omega) (by omega) ?_ hq (by omega)
 have:(u*4294967296+d)/(y1*4294967296+y0)<u/y1+1:=by
  rw[Nat.div_lt_iff_lt_mul hy,Nat.add_mul,Nat.one_mul,Nat.mul_add,←Nat.mul_assoc];omega
 omega
theorem EG {U w v A B R1 R0 d1 d0:Nat} (hU:U=w*4294967296) (h6:4294967296*d1+d0=v) (h5:A*4294967296+R1*4294967296=(w+d1)*4294967296) (m3:B+R0=R1*4294967296+d0) :
  U+v=R0+(A*4294967296+B):=by
 omega
theorem KA (u:Nat):u*18446744073709551616=u*4294967296*4294967296:=by rw[Nat.mul_assoc]
theorem FO {n:Nat} (hn:4<n) {x1 x2 x3:Nat} (h4:x1<x3) (h1:x2<18446744073709551616) (h2:x3<18446744073709551616) :
  BF n x1 x2 x3=some ((x1*18446744073709551616+x2)/x3,(x1*18446744073709551616+x2)%x3):=by
 unfold BF;rw[cz (by omega),cz (by omega)]
 by_cases hz:x1=0
 ·subst hz;rw[cj rfl,dm (by omega),dm (by omega),oq (Nat.lt_of_le_of_lt (Nat.div_le_self _ _) h1)]
  simp
 ·rw[cz hz];obtain⟨l1,l2,l3⟩:=HK (x:=x3) (by omega)
  have l4:bl x3≤64:=F7 h2;obtain⟨s,hs⟩:∃s,bl x3+s=64:=⟨64-bl x3,by omega⟩
  have r0:AI n x3=some ((s:Nat):Int):=by
   unfold AI;rw[Hd n x3 h2,aA,dw (by omega) (by omega)]
   congr 1
   omega
  have u0:ui .u64 ((s:Nat):Int)=s:=by
   show(((s:Nat):Int)%((2 ^ 64:Nat):Int)).toNat=s
   omega
  have P0:0<2 ^ s:=Nat.two_pow_pos s;have PP:2 ^ s*2 ^ (64-s)=18446744073709551616:=by rw[←Nat.pow_add,show s+(64-s)=64 by omega]
  have X1:x3*2 ^ s<18446744073709551616:=by
   have:x3*2 ^ s<2 ^ bl x3*2 ^ s:=Nat.mul_lt_mul_of_pos_right l2 P0;rw[←Nat.pow_add,hs] at this;exact this
  have X2:9223372036854775808≤x3*2 ^ s:=by
   have:2 ^ (bl x3-1)*2 ^ s≤x3*2 ^ s:=Nat.mul_le_mul_right _ l1;rw[←Nat.pow_add,show bl x3-1+s=63 by omega] at this
   exact this
  have X3:x1*2 ^ s<x3*2 ^ s:=Nat.mul_lt_mul_of_pos_right h4 P0;have s0:fX .u64 x3 s=x3*2 ^ s:=by
   rw[tF (by omega),oq X1]
  have s1:fX .u64 x1 s=x1*2 ^ s:=by
   rw[tF (by omega),oq (by omega)]
  have s2:fX .u64 x2 s=x2*2 ^ s%18446744073709551616:=by
   rw[tF (by omega)]; rfl
  have t0:bZ .u64 x2 (e9 .u64 64 s)=x2/2 ^ (64-s):=by
   rw[sv (by decide) (by omega)]
   rw[zt (by omega)]
  have t1:x2/2 ^ (64-s)<2 ^ s:=by rw[Nat.div_lt_iff_lt_mul (Nat.two_pow_pos _),PP]; exact h1
  have t2:x2*2 ^ s/18446744073709551616=x2/2 ^ (64-s):=by rw[←PP,Nat.mul_comm x2,Nat.mul_div_mul_left _ _ P0]
  have hor:uw .u64 (uw .u64 (x1*2 ^ s) ||| uw .u64 (x2/2 ^ (64-s)))=x1*2 ^ s+x2/2 ^ (64-s):=by
   have h0:x2/2 ^ (64-s)≤x2:=Nat.div_le_self _ _;rw[Fm (show x1*2 ^ s<2 ^ 64 by omega) (show x2/2 ^ (64-s)<2 ^ 64 by omega),←Nat.shiftLeft_eq,Nat.shiftLeft_add_eq_or_of_lt t1]
  rw[r0,aA,u0,aA,s0,s1,t0,hor,s2];have key:(x1*2 ^ s+x2/2 ^ (64-s))*18446744073709551616+x2*2 ^ s%18446744073709551616=(x1*18446744073709551616+x2)*2 ^ s:=by
   have:=Nat.div_add_mod (x2*2 ^ s) 18446744073709551616;rw[t2] at this;rw[Nat.add_mul,Nat.add_mul,Nat.mul_right_comm x1];omega
  have hv:x2*2 ^ s%18446744073709551616<18446744073709551616:=Nat.mod_lt _ (by decide)
  have hu:x1*2 ^ s+x2/2 ^ (64-s)<x3*2 ^ s:=by
   have h0:(x1*18446744073709551616+x2)*2 ^ s<(x3*18446744073709551616)*2 ^ s:=Nat.mul_lt_mul_of_pos_right (by omega) P0
   rw[←key,Nat.mul_right_comm x3] at h0;omega
  have r1:(x1*18446744073709551616+x2)/x3=((x1*18446744073709551616+x2)*2 ^ s)/(x3*2 ^ s):=by rw[Nat.mul_div_mul_right _ _ P0]
  have r2:(x1*18446744073709551616+x2)%x3=(((x1*18446744073709551616+x2)*2 ^ s)%(x3*2 ^ s))/2 ^ s:=by rw[Nat.mul_mod_mul_right,Nat.mul_div_cancel _ P0]
  rw[r1,r2,←key];have hss:∀R,bZ .u64 R s=R/2 ^ s:=fun R=>zt (by omega)
  clear PP t1 t2 hor key r1 r2 r0 u0 s1 s2 s0 t0 P0 X3 l1 l2 l3 l4 hs;generalize x1*2 ^ s+x2/2 ^ (64-s)=u at hu ⊢;generalize x2*2 ^ s%18446744073709551616=v at hv ⊢;generalize x3*2 ^ s=X at X1 X2 hu ⊢;have hX:X/4294967296*4294967296+X%4294967296=X:=Nat.div_add_mod' _ _;rw[dm (show 0<bZ .u64 X 32 by rw[Ch]; omega)]
  simp only[Ch,uS X1,uS hv];rw[aA,An];rw[yk hn (u:=u) (y1:=X/4294967296) (y0:=X%4294967296) (d:=v/4294967296) (by omega) (by omega) (by omega) (by omega) (by omega),hX]
  have q0:(u*4294967296+v/4294967296)/X<4294967296:=by rw[Nat.div_lt_iff_lt_mul (by omega)]; omega
  have m2:=Nat.div_add_mod (u*4294967296+v/4294967296) X;have m4:=Nat.mod_lt (u*4294967296+v/4294967296) (show 0<X by omega)
  rw[Option.map_some,aA]
  dsimp only
  rw[aA,dm (by omega)]
  have e0:uw .u64 (uw .u64 (u*4294967296)+v/4294967296)=uw .u64 (u*4294967296+v/4294967296):=Nat.mod_add_mod _ _ _;rw[Nat.mul_comm X] at m2;rw[e0,rM (by omega) (by omega)]
  have e1:u*4294967296+v/4294967296-(u*4294967296+v/4294967296)/X*X=(u*4294967296+v/4294967296)%X:=by omega
  rw[e1];obtain⟨Q1,hQ1⟩:∃Q,(u*4294967296+v/4294967296)/X=Q:=⟨_,rfl⟩;obtain⟨R1,hR1⟩:∃R,(u*4294967296+v/4294967296)%X=R:=⟨_,rfl⟩;clear e1;rw[hQ1] at q0 m2 ⊢;rw[hR1] at m2 m4 ⊢;rw[yk hn (u:=R1) (y1:=X/4294967296) (y0:=X%4294967296) (d:=v%4294967296) (by omega) (by omega) (by omega) (by omega) (by omega),hX,aA]
  have q1:(R1*4294967296+v%4294967296)/X<4294967296:=by rw[Nat.div_lt_iff_lt_mul (by omega)]; omega
  have m1:=Nat.div_add_mod (R1*4294967296+v%4294967296) X;have m3:=Nat.mod_lt (R1*4294967296+v%4294967296) (show 0<X by omega)
  rw[Nat.mul_comm X] at m1;have e2:uw .u64 (uw .u64 (R1*4294967296)+v%4294967296)=uw .u64 (R1*4294967296+v%4294967296):=Nat.mod_add_mod _ _ _;rw[e2,aA,rM (by omega) (by omega)]
  have e3:R1*4294967296+v%4294967296-(R1*4294967296+v%4294967296)/X*X=(R1*4294967296+v%4294967296)%X:=by omega
  rw[e3,hss];obtain⟨Q0,hQ0⟩:∃Q,(R1*4294967296+v%4294967296)/X=Q:=⟨_,rfl⟩;obtain⟨R0,hR0⟩:∃R,(R1*4294967296+v%4294967296)%X=R:=⟨_,rfl⟩;clear e3;rw[hQ0] at q1 m1 ⊢;rw[hR0] at m1 m3 ⊢;rw[oq (a:=Q1*4294967296) (by omega),oq (by omega)]
  clear hQ1 hR1 hQ0 hR0 e0 e2 hss X1 X2 hX q1 q0 m4 hu h4 h1 h2 hz;have fin:u*18446744073709551616+v=R0+(Q1*4294967296+Q0)*X:=by
   have h0:Q1*X*4294967296+R1*4294967296=(u*4294967296+v/4294967296)*4294967296:=by rw[←m2,Nat.add_mul]
   rw[Nat.add_mul,Nat.mul_right_comm Q1];have h3:=Nat.div_add_mod v 4294967296;generalize v/4294967296=d0 at h0 h3;generalize v%4294967296=d1 at m1 h3;generalize Q1*X=A at h0 ⊢;generalize Q0*X=B at m1 ⊢;exact EG (KA u) h3 h0 m1
  rw[fin,Nat.add_mul_div_right _ _ (show 0<X by omega),Nat.add_mul_mod_self_right,Nat.div_eq_of_lt m3,Nat.mod_eq_of_lt m3,Nat.zero_add]
theorem DR {q:List Nat} {i e d:Nat}:(List.replicate i 0++e::q).set i d=List.replicate i 0++d::q:=by
 rw[List.set_append_right _ _ (by simp)]
 simp
theorem DS (i:Nat) (q:List Nat):List.replicate (i+1) 0++q=List.replicate i 0++0::q:=by
 rw[List.replicate_succ',List.append_assoc]; rfl
theorem FM {n:Nat} {l:List Nat} {d:Nat} (hl:Wd l) (hd:d<18446744073709551616) (h0:d≠0) (hb:l.length<1000000) (hn:l.length<n) (hn4:4<n) :
  ∃q t m,I5 n l [d]=some (q,m)∧Wd q∧vl q=vl l/d∧q.length=l.length∧Lg ((vl l%d:Nat):Int) t m∧t=false:=by
 have hL:∀i q r m,i+q.length=l.length→i<m→Wd q→r<d→vl l=vl (l.take i)+wp i*(d*vl q+r) →
   ∃q' r',bL (rI n l [d]) m (List.replicate i 0++q,r,(i:Int)-1)=some (q',r')∧Wd q'∧q'.length=l.length∧r'<d∧vl l=d*vl q'+r':=by
  intro i
  induction i with
  | zero =>
   intro q r m hi hm hq hr hv;obtain⟨m,rfl⟩:∃m',m=m'+1:=⟨m-1,by omega⟩
   refine⟨q,r,dB ?_,hq,by omega,hr,?_⟩
   ·unfold rI
    dsimp only
    rw[cz (by decide)]; rfl
   ·rw[hv]; simp[vl,wp]
  | succ i ih =>
   intro q r m hi hm hq hr hv;obtain⟨m,rfl⟩:∃m',m=m'+1:=⟨m-1,by omega⟩
   have hi':i<l.length:=by omega
   obtain⟨x,e2⟩:∃x,l[i]? = some x:=⟨l[i],by simp⟩
   have hx:=hl.at e2;have e0:((i+1:Nat):Int)-1=((i:Nat):Int):=by omega
   have ht:vl (l.take (i+1))=vl (l.take i)+wp i*x:=by
    rw[List.take_add_one,e2,Option.toList_some,oU,List.length_take,Nat.min_eq_left (Nat.le_of_lt hi')]
   have e3:(List.replicate (i+1) 0++q)[i]? = some 0:=by rw[List.getElem?_append_left (by simp),List.getElem?_replicate]; simp
   have hqd:(r*18446744073709551616+x)/d<18446744073709551616:=by
    rw[Nat.div_lt_iff_lt_mul (by omega),Nat.mul_comm _ d]
    have:(r+1)*18446744073709551616≤d*18446744073709551616:=Nat.mul_le_mul_right _ hr;omega
   have st:rI n l [d] (List.replicate (i+1) 0++q,r,((i:Nat):Int))=some (.inl (List.replicate i 0++(r*18446744073709551616+x)/d::q,(r*18446744073709551616+x)%d,(i:Int)-1)):=by
    unfold rI
    dsimp only
    rw[cj (by omega),aO hi',bD,Int.toNat_natCast,e2,aA]
    rw[show bJ 0 [d].length=true from rfl,bD,show([d]:List Nat)[(0:Int).toNat]? = some d from rfl,aA,FO hn4 hr hx hd,aA]
    dsimp only
    rw[Int.toNat_natCast,aO hi',bD,e3,aA,DS,DR,dw (by omega) (by omega)]
   rw[e0,du st];refine ih _ _ m (by rw[List.length_cons]; omega) (by omega) (fun e he=>?_) (Nat.mod_lt _ (by omega)) ?_
   ·rcases List.mem_cons.1 he with rfl|h
    ·exact hqd
    ·exact hq e h
   ·have h1:=Nat.div_add_mod (r*18446744073709551616+x) d;rw[hv,ht,gS,fA];generalize (r*18446744073709551616+x)%d=R at h1 ⊢;generalize (r*18446744073709551616+x)/d=Q at h1 ⊢;have h2:wp i*(d*Q+R)=wp i*(r*18446744073709551616+x):=by rw[h1]
    rw[Nat.mul_comm r] at h2;simp only[Nat.mul_add,Nat.mul_left_comm (wp i) 18446744073709551616,Nat.mul_left_comm d 18446744073709551616,Nat.mul_assoc] at h2 ⊢;omega
 obtain⟨q,r,q1,q2,q3,q4,q5⟩:=hL l.length [] 0 n (by simp) hn Wd.nil (by omega) (by rw[List.take_length,j8]; simp)
 rw[List.append_nil] at q1;obtain⟨t,m,m1,m2⟩:=j6 (n:=n) false (Wd.one (show r<18446744073709551616 by omega)) (by simp) (by simp; omega)
 have hr:vl [r]=r:=by simp[vl]
 rw[hr] at m2;have dq:vl q=vl l/d:=by
  rw[q5,Nat.mul_add_div (by omega),Nat.div_eq_of_lt q4]; rfl
 have dr:r=vl l%d:=by
  rw[q5,Nat.mul_add_mod,Nat.mod_eq_of_lt q4]
 refine⟨q,t,m,?_,q2,dq,q3,by rw[←dr]; exact m2,?_⟩
 ·unfold I5;rw[dm (by omega),Int.toNat_natCast,nG (by omega),bD,cj (show(([d]:List Nat).length:Int)=1 from rfl),dw (by omega) (by omega),q1,aA]
  dsimp only
  rw[m1]; rfl
 ·have:=m2.FG;rw[this];simp[vn]
theorem G8 {n:Nat} {a b:Int} {s t:Bool} {l k:List Nat} (h:Lg (a*b) s l) (h':Lg b t k) (h0:b≠0) (hbb:b.natAbs<18446744073709551616) (hb:l.length<1000000) (hn:l.length<n) (hn4:4<n) :
  ∃u m v o,Hc n s l t k=some (u,m,v,o)∧Lg a u m:=by
 have hk:=h'.K5 h0 hbb;subst hk;obtain⟨q,t',m,q1,q2,q3,q4,q5,q6⟩:=FM (n:=n) h.wd hbb (by omega) hb hn hn4
 obtain⟨u,m',u1,u2⟩:=j6 (n:=n) (!(s == t)) q2 (by omega) (by omega)
 have hz:(vl l%b.natAbs:Nat)=0:=by rw[h.abs,Int.natAbs_mul,Nat.mul_mod_left]
 rw[hz] at q5;obtain⟨rfl,rfl⟩:=q5.inj Lg.zero;obtain⟨v,o,v1,v2⟩:=j6 (n:=n) s Wd.nil (by simp) (by simp; omega)
 have v3:Lg 0 v o:=by rw[j8,vG] at v2; exact v2
 obtain⟨rfl,rfl⟩:=v3.inj Lg.zero;refine⟨u,m',false,[],?_,?_⟩
 ·unfold Hc;rw[q1,aA]
  dsimp only
  rw[u1,aA]
  dsimp only
  rw[v1,aA]
  rfl
 ·have e1:vl q=a.natAbs:=by rw[q3,h.abs,Int.natAbs_mul,Nat.mul_div_cancel _ (by omega)]
  have hs:=h.FG;have ht:=h'.FG;have:a=vn (!(s == t)) (vl q)∨(a=0):=by
   by_cases ha:a=0
   ·exact .inr ha
   ·refine .inl ?_;rw[e1,hs,ht];unfold vn
    by_cases hb0:b<0<;>by_cases ha0:a<0
    ·have:¬a*b<0:=Int.not_lt.2 (Int.mul_nonneg_of_nonpos_of_nonpos (by omega) (by omega))
     simp[hb0,this]; omega
    ·have:a*b<0:=Int.mul_neg_of_pos_of_neg (by omega) hb0
     simp[hb0,this]; omega
    ·have:a*b<0:=Int.mul_neg_of_neg_of_pos ha0 (by omega)
     simp[hb0,this]; omega
    ·have:¬a*b<0:=Int.not_lt.2 (Int.mul_nonneg (by omega) (by omega))
     simp[hb0,this]; omega
  rcases this with e|e
  ·rw[e]; exact u2
  ·rw[e,Int.natAbs_zero] at e1;rw[e1,vG] at u2;rw[e]; exact u2
theorem JT (m:Nat):ry (m+20) 0=some (false,[]):=by rfl
theorem J6 (m:Nat):ry (m+20) 1=some (false,[1]):=by rfl
theorem Ks (m:Nat):ry (m+20) (-1)=some (true,[1]):=by rfl
theorem vQ {n:Nat} (h:20≤n):ry n 0=some (false,[]):=by obtain⟨m,rfl⟩:∃m,n=m+20:=⟨n-20,by omega⟩; exact JT m
theorem sW {n:Nat} (h:20≤n):ry n 1=some (false,[1]):=by obtain⟨m,rfl⟩:∃m,n=m+20:=⟨n-20,by omega⟩; exact J6 m
theorem yC {n:Nat} (h:20≤n):ry n (-1)=some (true,[1]):=by obtain⟨m,rfl⟩:∃m,n=m+20:=⟨n-20,by omega⟩; exact Ks m
theorem xM:Lg 1 false [1]:=Lg.small (by decide) (by decide) false
theorem BX:Lg (-1) true [1]:=Lg.small (by decide) (by decide) true
end Go.Proofs.YtookeaakpiefjaaDoor
end

section
namespace Go.Proofs.YtookeaakpiefjaaDoor
open Go Go.Ab Go.Ab.W Go.Ab.T30
def se (s:Nat) (L:List (List (Bool × List Nat))) (M:Mt):Prop :=
 L.length=s∧∀r,r<s→∃row,L[r]? = some row∧row.length=s∧∀c,c<s→∃t k,row[c]? = some (t,k)∧Lg (M r c) t k
section
variable {s : Nat} {L : List (List (Bool × List Nat))} {M M' : Mt}
theorem se.congr (h:se s L M) (he:∀r c,r<s→c<s→M r c=M' r c):se s L M' :=
 ⟨h.1,fun r hr=>by
  obtain⟨row,h1,h2,h3⟩:=h.2 r hr;exact⟨row,h1,h2,fun c hc=>by rw[←he r c hr hc]; exact h3 c hc⟩⟩
theorem se.at (h:se s L M) {r c:Nat} (hr:r<s) (hc:c<s):∃row t k,L[r]? = some row∧row.length=s∧row[c]? = some (t,k)∧Lg (M r c) t k:=by
 obtain⟨row,h1,h2,h3⟩:=h.2 r hr;obtain⟨t,k,h4,h5⟩:=h3 c hc;exact⟨row,t,k,h1,h2,h4,h5⟩
theorem se.set (h:se s L M) {i j:Nat} {row:List (Bool × List Nat)} {t:Bool} {k:List Nat} {x:Int} (hi:i<s) (hj:j<s) (hrow:L[i]? = some row) (hx:Lg x t k) :
  se s (L.set i (row.set j (t,k))) fun r c=>if r=i∧c=j then x else M r c:=by
 refine⟨by rw[List.length_set]; exact h.1,fun r hr=>?_⟩
 by_cases hri:r=i
 ·subst hri;obtain⟨row',h1,h2,h3⟩:=h.2 r hr;rw[hrow] at h1;cases h1;refine⟨_,by rw[List.getElem?_set_self (by rw[h.1]; exact hr)],by rw[List.length_set]; exact h2,fun c hc=>?_⟩
  by_cases hcj:c=j
  ·subst hcj;exact⟨t,k,by rw[List.getElem?_set_self (by rw[h2]; exact hc)],by dsimp only; rw[if_pos ⟨rfl,rfl⟩]; exact hx⟩
  ·dsimp only
   rw[List.getElem?_set_ne (fun e=>hcj e.symm),if_neg (fun e:r=r∧c=j=>hcj e.2)];exact h3 c hc
 ·obtain⟨row',h1,h2,h3⟩:=h.2 r hr;refine⟨row',by rw[List.getElem?_set_ne (fun e=>hri e.symm)]; exact h1,h2,fun c hc=>?_⟩
  dsimp only
  rw[if_neg (fun e:r=i∧c=j=>hri e.1)];exact h3 c hc
end
theorem BP {a b:Nat} (h:a<b):Nat.blt a b=true:=Nat.ble_eq_true_of_le h
def LB (s k:Nat) (M:Mt):Prop:=∀r c,k≤r→r<s→k≤c→c<s→(M r c).natAbs<wp 15
theorem ku {a b:Int} {j k:Nat} (ha:a.natAbs<wp j) (hb:b.natAbs<wp k):(a*b).natAbs<wp (j+k):=by
 rw[Int.natAbs_mul,Hj];have h1:a.natAbs*b.natAbs≤a.natAbs*wp k:=Nat.mul_le_mul_left _ (Nat.le_of_lt hb);have h2:a.natAbs*wp k<wp j*wp k:=Nat.mul_lt_mul_of_pos_right ha (C0 k);omega
theorem Dm {n:Nat} (hn:100<n) {s k r:Nat} {A M:Mt} {p:Int} (hB:Bar A s k M p) (hk:k<s) (hr:k<r) (hrs:r<s) (hs:s≤64) (h0:M k k≠0) (hp:p.natAbs<18446744073709551616) (hb:LB s k M)
  {tf:Bool} {kf:List Nat} (hf:Lg (M r k) tf kf) {tp:Bool} {kp:List Nat} (hP:Lg p tp kp) {N:Mt} (hN:∀b,N k b=M k b) :
  ∀j c m L,c+j=s→j<m→k≤c→se s L (fun a b=>if a=r then(if k≤b∧b<c then Ar M k p a b else M a b) else N a b) →
   ∃L',bL (po n s (r:Int) (k:Int) tf kf tp kp) m (L,(c:Int))=some L'∧se s L' (fun a b=>if a=r then(if k≤b∧b<s then Ar M k p a b else M a b) else N a b):=by
 intro j
 induction j with
 | zero =>
  intro c m L hj hm hkc hL;obtain⟨m,rfl⟩:∃m',m=m'+1:=⟨m-1,by omega⟩
  have hc:c=s:=by omega
  subst hc;refine⟨L,dB ?_,hL⟩;unfold po
  dsimp only
  rw[cz (by omega)]
 | succ j ih =>
  intro c m L hj hm hkc hL;obtain⟨m,rfl⟩:∃m',m=m'+1:=⟨m-1,by omega⟩
  have hc:c<s:=by omega
  obtain⟨row,t1,k1,a1,a2,a3,a4⟩:=hL.at hrs hc;obtain⟨rowk,t2,k2,b1,b2,b3,b4⟩:=hL.at hk hk;obtain⟨rowk',t3,k3,c1,c2,c3,c4⟩:=hL.at hk hc;rw[b1] at c1;cases c1;rw[if_pos rfl,if_neg (by omega)] at a4
  rw[if_neg (by omega),hN] at b4 c4
  have l1:=a4.len (hb r c (by omega) hrs hkc hc)
  have l2:=b4.len (hb k k (by omega) hk (by omega) hk)
  have l3:=c4.len (hb k c (by omega) hk hkc hc)
  have lf:=hf.len (hb r k (by omega) hrs (by omega) hk)
  obtain⟨u1,v1,d1,d2⟩:=BO (n:=n) a4 b4 (by omega) (by omega) (by omega)
  obtain⟨u2,v2,e1,e2⟩:=BO (n:=n) hf c4 (by omega) (by omega) (by omega)
  have l4:=d2.len (ku (hb r c (by omega) hrs hkc hc) (hb k k (by omega) hk (by omega) hk))
  have l5:=e2.len (ku (hb r k (by omega) hrs (by omega) hk) (hb k c (by omega) hk hkc hc))
  obtain⟨u3,v3,f1,f2⟩:=HZ (n:=n) d2 e2 (by omega) (by omega) (by omega)
  have l6:v3.length≤31:=f2.len (by
   have h1:=ku (hb r c (by omega) hrs hkc hc) (hb k k (by omega) hk (by omega) hk)
   have h2:=ku (hb r k (by omega) hrs (by omega) hk) (hb k c (by omega) hk hkc hc)
   rw[gS];simp only[Nat.reduceAdd] at h1 h2;omega)
  have hex:=hB.exact hk h0 hr hrs hkc hc;rw[hex,Int.mul_comm] at f2;obtain⟨u4,v4,w4,o4,g1,g2⟩:=G8 (n:=n) f2 hP hB.p0 hp (by omega) (by omega) (by omega)
  have st:po n s (r:Int) (k:Int) tf kf tp kp (L,(c:Int))=some (.inl (L.set r (row.set c (u4,v4)),((c+1:Nat):Int))):=by
   unfold po
   dsimp only
   simp only[Int.toNat_natCast];rw[cj (by omega),aO hrs,bD,a1,aA,dm (by omega),a2,aO hc,bD,a3,aA]
   dsimp only
   rw[aO hk,bD,b1,aA,dm (by omega),b2,aO hk,bD,b3,aA]
   dsimp only
   rw[d1,aA]
   dsimp only
   rw[bD,aA,dm (by omega),b2,aO hc,bD,c3,aA]
   dsimp only
   rw[e1,aA]
   dsimp only
   rw[f1,aA]
   dsimp only
   rw[bD,aA,dm (by omega),g1,aA]
   dsimp only
   rw[a2,aO hc,bD,BP hc,bD,cT (by omega)]
  rw[du st];refine ih (c+1) m _ (by omega) (by omega) (by omega) ((hL.set hrs hc a1 g2).congr fun a b ha hb'=>?_)
  by_cases h1:a=r∧b=c
  ·rw[if_pos h1,if_pos h1.1,if_pos ⟨by omega,by omega⟩,h1.1,h1.2]
  ·rw[if_neg h1]
   by_cases h3:a=r
   ·rw[if_pos h3,if_pos h3]
    by_cases h2:k≤b∧b<c
    ·rw[if_pos h2,if_pos ⟨h2.1,by omega⟩]
    ·rw[if_neg h2,if_neg (by omega)]
   ·rw[if_neg h3,if_neg h3]
theorem Af {n:Nat} (hn:100<n) {s k:Nat} {A M:Mt} {p:Int} (hB:Bar A s k M p) (hk:k<s) (hs:s≤64) (h0:M k k≠0) (hp:p.natAbs<18446744073709551616) (hb:LB s k M)
  {tp:Bool} {kp:List Nat} (hP:Lg p tp kp) :
  ∀j r m L,r+j=s→j<m→k<r→se s L (fun a b=>if k<a∧a<r∧k≤b then Ar M k p a b else M a b) →
   ∃L',bL (nr n s (k:Int) tp kp) m (L,(r:Int))=some L'∧se s L' (Ar M k p):=by
 intro j
 induction j with
 | zero =>
  intro r m L hj hm hkr hL;obtain⟨m,rfl⟩:∃m',m=m'+1:=⟨m-1,by omega⟩
  have hr:r=s:=by omega
  subst hr;refine⟨L,dB ?_,hL.congr fun a b ha hb'=>?_⟩
  ·unfold nr
   dsimp only
   rw[cz (by omega)]
  ·by_cases h1:k<a∧k≤b
   ·rw[if_pos ⟨h1.1,ha,h1.2⟩]
   ·rw[if_neg (by omega)]; unfold Ar; rw[if_neg h1]
 | succ j ih =>
  intro r m L hj hm hkr hL;obtain⟨m,rfl⟩:∃m',m=m'+1:=⟨m-1,by omega⟩
  have hr:r<s:=by omega
  obtain⟨row,t1,k1,a1,a2,a3,a4⟩:=hL.at hr hk;rw[if_neg (by omega)] at a4
  have hL9:∃L',bL (po n s (r:Int) (k:Int) t1 k1 tp kp) n (L,(k:Int))=some L'∧se s L' (fun a b=>if k<a∧a<r+1∧k≤b then Ar M k p a b else M a b):=by
   obtain⟨L',c1,c2⟩:=Dm hn hB hk hkr hr hs h0 hp hb a4 hP (N:=fun a b=>if k<a∧a<r∧k≤b then Ar M k p a b else M a b) (fun b=>by rw[if_neg (by omega)]) (s-k) k n L (by omega) (by omega) (Nat.le_refl _) (hL.congr fun a b ha hb'=>by
    by_cases h3:a=r
    ·rw[if_neg (by omega),if_pos h3,if_neg (by omega)]
    ·rw[if_neg (c:=a=r) h3])
   refine⟨L',c1,c2.congr fun a b ha hb'=>?_⟩
   by_cases h3:a=r
   ·rw[if_pos h3]
    by_cases h4:k≤b
    ·rw[if_pos ⟨h4,hb'⟩,if_pos ⟨by omega,by omega,h4⟩]
    ·rw[if_neg (by omega),if_neg (by omega)]
   ·rw[if_neg h3]
    by_cases h4:k<a∧a<r∧k≤b
    ·rw[if_pos h4,if_pos ⟨h4.1,by omega,h4.2.2⟩]
    ·rw[if_neg h4,if_neg (by omega)]
  obtain⟨L',b1,b2⟩:=hL9;have st:nr n s (k:Int) tp kp (L,(r:Int))=some (.inl (L',((r+1:Nat):Int))):=by
   unfold nr
   dsimp only
   simp only[Int.toNat_natCast];rw[cj (by omega),aO hr,bD,a1,aA,dm (by omega),a2,aO hk,bD,a3,aA]
   dsimp only
   rw[b1,aA,cT (by omega)]
  rw[du st];exact ih (r+1) m _ (by omega) (by omega) (by omega) b2
theorem Av {n:Nat} (hn:100<n) {s:Nat} {A:Mt} (hs:s≤64) (hD:∀k r c,k<s→r<s→c<s→(cA (k+1) (jv A k r c)).natAbs<wp 15) (hP:∀k,k<s→(cA k A).natAbs<18446744073709551616) :
  ∀j k m L M p tp kp,j+k=s→j<m→se s L M→Bar A s k M p→Lg p tp kp →
   ∃t q,(bL (iu n s) m (L,tp,kp,(k:Int))=some (.inl (t,q))∨bL (iu n s) m (L,tp,kp,(k:Int))=some (.inr (t,q)))∧Lg (Gc j k M p) t q:=by
 intro j
 induction j with
 | zero =>
  intro k m L M p tp kp hj hm hL hB hp;obtain⟨m,rfl⟩:∃m',m=m'+1:=⟨m-1,by omega⟩
  refine⟨tp,kp,.inr (dB ?_),hp⟩;unfold iu
  dsimp only
  rw[cz (by omega)]
 | succ j ih =>
  intro k m L M p tp kp hj hm hL hB hp;obtain⟨m,rfl⟩:∃m',m=m'+1:=⟨m-1,by omega⟩
  have hk:k<s:=by omega
  obtain⟨row,t1,k1,a1,a2,a3,a4⟩:=hL.at hk hk;obtain⟨r,r1,r2,r3⟩:=Il (n:=n) a4;have hb:LB s k M:=fun r c h1 h2 h3 h4=>by rw[hB.minor h1 h2 h3 h4]; exact hD k r c hk h2 h4
  unfold Gc
  by_cases h0:M k k=0
  ·rw[if_pos h0];refine⟨false,[],.inl (dB ?_),Lg.zero⟩;unfold iu
   dsimp only
   simp only[Int.toNat_natCast];rw[cj (by omega),aO hk,bD,a1,aA,dm (by omega),a2,aO hk,bD,a3,aA]
   dsimp only
   rw[r1,aA,cj (r3.2 h0),vQ (by omega),aA]
  ·rw[if_neg h0];obtain⟨L',b1,b2⟩:=Af hn hB hk hs h0 (by rw[hB.pe]; exact hP k hk) hb hp (s-(k+1)) (k+1) n L (by omega) (by omega) (by omega) (hL.congr fun a b _ _=>by rw[if_neg (by omega)])
   obtain⟨row',t2,k2,c1,c2,c3,c4⟩:=b2.at hk hk;have he:Ar M k p k k=M k k:=by unfold Ar; rw[if_neg (by omega)]
   rw[he] at c4;have st:iu n s (L,tp,kp,(k:Int))=some (.inl (L',t2,k2,((k+1:Nat):Int))):=by
    unfold iu
    dsimp only
    simp only[Int.toNat_natCast];rw[cj (by omega),aO hk,bD,a1,aA,dm (by omega),a2,aO hk,bD,a3,aA]
    dsimp only
    rw[r1,aA,cz (fun e=>h0 (r3.1 e)),cT (by omega),b1,aA,bD,c1,aA,dm (by omega),c2,aO hk,bD,c3,aA]
   rw[du st];exact ih (k+1) m L' _ _ t2 k2 (by omega) (by omega) b2 (hB.step hk h0) c4
end Go.Proofs.YtookeaakpiefjaaDoor
end

section
namespace Go.Proofs.YtookeaakpiefjaaDoor
open Go Go.Ab Go.Ab.W
theorem re {α β:Type} [DecidableEq α] (xs:List (α × β)) (k k':α) (v:β):cg (ez xs k v) k'=(if k'=k then some v else cg xs k')∧(ez xs k v).length=(if cg xs k=none then xs.length+1 else xs.length):=by
 have key:∀(xs:List (α × β)) (i:Nat),(cD k xs i=none→∀j,(cD k' (xs++[(k,v)]) j).map (·.2)=if k'=k then some v else(cD k' xs j).map (·.2)) ∧
   (∀p,cD k xs i=some p→i≤p.1∧∀j,(cD k' (xs.set (p.1-i) (k,v)) j).map (·.2)=if k'=k then some v else(cD k' xs j).map (·.2)):=by
  intro xs
  induction xs with
  | nil =>
   intro i;refine⟨fun _ j=>?_,fun p h=>by simp[cD] at h⟩
   simp only[List.nil_append,cD]
   by_cases h:k'=k<;>simp[h]
  | cons e xs ih =>
   intro i
   by_cases he:k=e.1
   ·refine⟨fun h=>by simp[cD,he] at h,fun p h=>?_⟩
    have hp:p=(i,e.2):=by simp[cD,he] at h; exact h.symm
    subst hp;refine⟨Nat.le_refl _,fun j=>?_⟩;simp only[Nat.sub_self,List.set_cons_zero,cD]
    by_cases h:k'=k
    ·simp[h]
    ·have:k'≠e.1:=fun c=>h (c.trans he.symm);simp[h,this]
   ·refine⟨fun h j=>?_,fun p h=>?_⟩
    ·have h':cD k xs (i+1)=none:=by simpa [cD,he] using h
     simp only[List.cons_append,cD]
     by_cases h2:k'=e.1
     ·have:k'≠k:=fun c=>he (c.symm.trans h2);simp[h2,Ne.symm he]
     ·simp only[if_neg h2];exact(ih (i+1)).1 h' (j+1)
    ·have h':cD k xs (i+1)=some p:=by simpa [cD,he] using h
     obtain⟨g1,g2⟩:=(ih (i+1)).2 p h';refine⟨by omega,fun j=>?_⟩
     rw[show p.1-i=(p.1-(i+1))+1 by omega,List.set_cons_succ]
     simp only[cD]
     by_cases h2:k'=e.1
     ·have:k'≠k:=fun c=>he (c.symm.trans h2);simp[h2,Ne.symm he]
     ·simp only[if_neg h2];exact g2 (j+1)
 unfold cg ez;cases h:cD k xs 0 with
 | none=>exact⟨(key xs 0).1 h 0,by simp⟩
 | some p=>exact⟨((key xs 0).2 p h).2 0,by simp⟩
theorem A5 {α β:Type} [DecidableEq α] (xs:List (α × β)) (k k':α) (v:β):cg (ez xs k v) k'=if k'=k then some v else cg xs k':=(re xs k k' v).1
theorem Cd {α β:Type} [DecidableEq α] (xs:List (α × β)) (k:α) (v:β) (h:cg xs k=none):(ez xs k v).length=xs.length+1:=by rw[(re xs k k v).2,if_pos h]
end Go.Proofs.YtookeaakpiefjaaDoor
end

section
namespace Go.Proofs.YtookeaakpiefjaaDoor
open Go Go.Ab Go.Ab.W Go.Ab.T30
def wi (es:List (Int × Int)) (x:Nat) (W:List (Int × Bool)) (i:Nat):Bool:=qX es x (i:Int) && (cg W (i:Int)).getD false
def wl (es:List (Int × Int)) (x:Nat) (W:List (Int × Bool)) (i j:Nat):List (Nat × Nat):=((List.range' i j).filter (wi es x W)).map fun(k:Nat)=>eg es (k:Int)
theorem EE (es:List (Int × Int)) (x:Nat) (W:List (Int × Bool)) (i j:Nat):wl es x W i (j+1)=if wi es x W i then eg es (i:Int)::wl es x W (i+1) j else wl es x W (i+1) j:=by
 unfold wl;rw[List.range'_succ,List.filter_cons]
 split<;>rfl
theorem BQ {N:Nat} {es:List (Int × Int)} (h:Okay N es) {n x:Nat} (hx:x<2 ^ 64) (hn:64<n) (W:List (Int × Bool)) :
  ∀j i m p r E,i+j=es.length→j<m→Fst p r→Rt r E →
   (de r (wl es x W i j)=true→∃p' E',bL (jQ n es x W) m ((i:Int),p,p.length)=some (.inr (p',p'.length))∧Fst p' ((wl es x W i j).foldl cy r)∧Rt ((wl es x W i j).foldl cy r) E') ∧
   (de r (wl es x W i j)=false→∃p' k,bL (jQ n es x W) m ((i:Int),p,p.length)=some (.inl (false,[],p',k))):=by
 intro j
 induction j with
 | zero =>
  intro i m p r E hij hm hp hr;obtain⟨m,rfl⟩:∃m',m=m'+1:=⟨m-1,by omega⟩
  have h0:wl es x W i 0 = []:=rfl;rw[h0];refine⟨fun _=>⟨p,E,dB ?_,hp,hr⟩,fun h=>by cases h⟩
  unfold jQ
  dsimp only
  rw[cz (by omega)]
 | succ j ih =>
  intro i m p r E hij hm hp hr;obtain⟨m,rfl⟩:∃m',m=m'+1:=⟨m-1,by omega⟩
  have hi:i<es.length:=by omega
  have hl:=h.len;obtain⟨a,b,g1,g2,g3,g4,_,g5⟩:=tP h (k:=(i:Int)) ⟨by omega,by omega⟩
  rw[Int.toNat_natCast] at g1;have ha:a<64:=by omega
  have hin:qX es x (i:Int)=(x.testBit a && x.testBit b):=by
   simp only[qX,g2];rw[decide_eq_true ⟨by omega,by omega⟩,Bool.true_and]
  have w1:IntKind.wrap .i64 ((i:Int)+1)=((i+1:Nat):Int):=cT (by omega)
  rw[EE,g2]
  by_cases h3:(x.testBit a && x.testBit b)=true
  ·by_cases h4:(cg W (i:Int)).getD false=true
   ·have hw:wi es x W i=true:=by unfold wi; rw[hin,h3,h4]; rfl
    rw[if_pos hw];have hM:max (r a) (r b)<p.length:=by rw[hp.len]; have:=hr.le a; have:=hr.le b; omega
    have hma:ma ((r a:Nat):Int) ((r b:Nat):Int)=((max (r a) (r b):Nat):Int):=by simp only[ma]; omega
    have hmi:mi ((r a:Nat):Int) ((r b:Nat):Int)=((min (r a) (r b):Nat):Int):=by simp only[mi]; omega
    have hpM:p[max (r a) (r b)]? = some (p[max (r a) (r b)]'hM):=List.getElem?_eq_getElem _;have key:jQ n es x W ((i:Int),p,p.length)=if r a=r b then some (.inr (.inl (false,[],p.set (max (r a) (r b)) ((min (r a) (r b):Nat):Int),p.length))) else some (.inl (((i+1:Nat):Int),p.set (max (r a) (r b)) ((min (r a) (r b):Nat):Int),p.length)):=by
     unfold jQ
     dsimp only
     rw[cj (by omega),aO hi,bD,Int.toNat_natCast,g1,aA]
     dsimp only
     rw[tv n x a b hx ha g4,aA,h3,jR,aA,h4,jR,BI hp n a ha hn,aA,BI hp n b g4 hn,aA,hma,aO hM,bD,Int.toNat_natCast,hpM,aA,aA,hmi]
     dsimp only
     rw[aA]
     dsimp only
     rw[w1]
     by_cases h5:r a=r b
     ·rw[if_pos h5,decide_eq_true (by omega),vQ (by omega)]; rfl
     ·rw[if_neg h5,decide_eq_false (by omega)]; rfl
    unfold de
    by_cases h5:r a=r b
    ·rw[if_pos h5] at key
     dsimp only
     have:(r a == r b)=true:=by simpa using h5
     rw[this];exact⟨fun h=>(by cases h),fun _=>⟨_,_,dB key⟩⟩
    ·rw[if_neg h5] at key
     dsimp only
     have:(r a == r b)=false:=by simpa using h5
     rw[this,Bool.not_false,Bool.true_and,du key,List.foldl_cons];have hj:=hp.join hr (e:=(a,b)) ha g4;have:=ih (i+1) m _ _ _ (by omega) (by omega) hj (hr.join (a,b))
     rw[List.length_set] at this;exact this
   ·rw[Bool.not_eq_true] at h4;have hw:wi es x W i=false:=by unfold wi; rw[h4,Bool.and_false]
    rw[hw];have key:jQ n es x W ((i:Int),p,p.length)=some (.inl (((i+1:Nat):Int),p,p.length)):=by
     unfold jQ
     dsimp only
     rw[cj (by omega),aO hi,bD,Int.toNat_natCast,g1,aA]
     dsimp only
     rw[tv n x a b hx ha g4,aA,h3,jR,aA,h4,jx,aA]
     dsimp only
     rw[jx,aA]
     dsimp only
     rw[aA]
     dsimp only
     rw[w1]
    rw[du key];exact ih (i+1) m p r E (by omega) (by omega) hp hr
  ·rw[Bool.not_eq_true] at h3;have hw:wi es x W i=false:=by unfold wi; rw[hin,h3]; rfl
   rw[hw];have key:jQ n es x W ((i:Int),p,p.length)=some (.inl (((i+1:Nat):Int),p,p.length)):=by
    unfold jQ
    dsimp only
    rw[cj (by omega),aO hi,bD,Int.toNat_natCast,g1,aA]
    dsimp only
    rw[tv n x a b hx ha g4,aA,h3,jx,aA]
    dsimp only
    rw[w1]
   rw[du key];exact ih (i+1) m p r E (by omega) (by omega) hp hr
theorem BD (n:Nat) (p:List Int):Dh n p.length p=jq n p:=rfl
theorem Br (n:Nat) (p:List Int):zj n p.length p=jq n p:=rfl
theorem BC (n:Nat) (p:List Int):zm n p.length p=jq n p:=rfl
theorem CN (n:Nat) (p:List Int) (z:List (Int × Int)):∀m v,bL (uF n p.length p) m (v,z)=(bL (jq n p) m v).map fun v=>(v,z):=by
 intro m
 induction m with
 | zero=>intro v; rfl
 | succ m ih =>
  intro v;have st:uF n p.length p (v,z)=(jq n p v).map fun x=>match x with | .inl v=>.inl (v,z) | .inr v=>.inr (v,z):=by
   unfold uF jq
   dsimp only
   cases bJ v p.length
   ·rfl
   ·rw[bD,bD];cases p[v.toNat]? with
    | none=>rfl
    | some y =>
     rw[aA,aA];cases(!decide (y=v))<;>rfl
  unfold bL;rw[st];cases jq n p v with
  | none=>rfl
  | some x =>
   cases x with
   | inl v=>exact ih v
   | inr v=>rfl
def IT (x:Nat) (r:Nat→Nat) (g:Nat) (v:Nat):Bool:=x.testBit v && r v == v && v != g
def qG (x:Nat) (r:Nat→Nat) (g i:Nat):List Nat:=(List.range i).filter (IT x r g)
theorem CK (x:Nat) (r:Nat→Nat) (g i:Nat):qG x r g (i+1)=if IT x r g i then qG x r g i++[i] else qG x r g i:=by
 unfold qG;rw[List.range_succ,List.filter_append,List.filter_cons]
 split<;>simp
theorem IY {x:Nat} {r:Nat→Nat} {g i v:Nat} (h:v ∈ qG x r g i):v<i:=by
 unfold qG at h;rw[List.mem_filter,List.mem_range] at h;exact h.1
def Li (x:Nat) (r:Nat→Nat) (g i:Nat) (T:List (Int × Int)):Prop :=
 T.length=(qG x r g i).length∧∀v:Nat,cg T (v:Int)=if v ∈ qG x r g i then some (((qG x r g i).idxOf v:Nat):Int) else none
theorem A7 {n x:Nat} (hx:x<2 ^ 64) (hn:64<n) {p:List Int} {r:Nat→Nat} (hp:Fst p r) (g:Nat):∃T,bL (nX n x p.length p (g:Int)) n (([]:List (Int × Int)),0)=some T∧Li x r g 64 T:=by
 refine mP (body:=nX n x p.length p (g:Int)) 64 (fun(s:List (Int × Int)) (v:Int)=>(s,v)) id (fun i s=>Li x r g i s) (fun T i hi hI=>?_) (fun T _=>?_) (n:=n) ⟨rfl,fun v=>by simp[qG,cg,cD]⟩ hn
 ·have key:nX n x p.length p (g:Int) (T,(i:Int))=some (.inl (if IT x r g i then ez T (i:Int) ((T.length:Nat):Int) else T,((i+1:Nat):Int))):=by
   unfold nX
   dsimp only
   rw[cj (by omega),dm (by omega),Int.toNat_natCast,yi hx (by omega),BD,hp.root n i n hi (by omega),cT (by omega)]
   unfold IT;cases x.testBit i
   ·rfl
   ·rw[jR,aA,aA]
    by_cases h1:r i=i
    ·rw[cj (by omega),aA]
     by_cases h2:i=g
     ·rw[decide_eq_true (by omega)]; simp[h1,h2,ob,br]
     ·rw[decide_eq_false (by omega)]; simp[h1,h2,ob,br]
    ·rw[cz (by omega),aA]; simp[h1,ob,br]
  refine⟨_,key,?_⟩;obtain⟨hl,hg⟩:=hI;have hni:i ∉ qG x r g i:=fun h=>Nat.lt_irrefl _ (IY h);unfold Li;rw[CK]
  by_cases hP:IT x r g i=true
  ·rw[if_pos hP,if_pos hP];have hnone:cg T (i:Int)=none:=by rw[hg,if_neg hni]
   refine⟨by rw[Cd _ _ _ hnone,hl,List.length_append]; rfl,fun v=>?_⟩
   rw[A5,hg,hl]
   by_cases hv:v=i
   ·subst hv;rw[if_pos rfl,if_pos (by simp),List.idxOf_append,if_neg hni]; simp
   ·rw[if_neg (by omega)]
    by_cases hm:v ∈ qG x r g i
    ·rw[if_pos hm,if_pos (by simp[hm]),List.idxOf_append,if_pos hm]
    ·rw[if_neg hm,if_neg (by simp[hm,hv])]
  ·rw[if_neg hP,if_neg hP];exact⟨hl,hg⟩
 ·unfold nX
  dsimp only
  rw[cz (by decide)]; rfl
theorem Ci {n s:Nat} (hs:s≤64) (hn:64<n) (T:List (Int × Int)) (hT:T.length=s):∃L,bL (pN n s T) n ((List.replicate s ([]:List (Bool × List Nat))),0)=some L∧se s L fun _ _=>0:=by
 have:=mP (body:=pN n s T) s (fun(l:List (List (Bool × List Nat))) (v:Int)=>(l,v)) id (fun i l=>l.length=s∧∀v,v<i→l[v]? = some (List.replicate s (false,[]))) (fun l i hi hI=>?_) (fun l _=>?_) (n:=n) (s:=List.replicate s []) ⟨by simp,fun v hv=>absurd hv (Nat.not_lt_zero _)⟩ (by omega)
 ·obtain⟨L,h1,h2,h3⟩:=this;refine⟨L,h1,h2,fun r hr=>⟨_,h3 r hr,by simp,fun c hc=>⟨false,[],by rw[List.getElem?_replicate,if_pos hc],Lg.zero⟩⟩⟩
 ·refine⟨l.set i (List.replicate s (false,[])),?_,by rw[List.length_set]; exact hI.1,fun v hv=>?_⟩
  ·unfold pN
   dsimp only
   have e3:l[i]? = some (l[i]'(by rw[hI.1]; exact hi)):=List.getElem?_eq_getElem _
   rw[cj (by omega),aA,hT,dm (by omega),Int.toNat_natCast,nG (by omega),bD,aO hi,bD,Int.toNat_natCast,e3,aA,dm (by omega),cT (by omega)]
  ·by_cases hvi:v=i
   ·subst hvi; rw[List.getElem?_set_self (by rw[hI.1]; exact hi)]
   ·rw[List.getElem?_set_ne (fun e=>hvi e.symm)]; exact hI.2 v (by omega)
 ·unfold pN
  dsimp only
  rw[cz (by omega)]; rfl
def ye (n y4:Nat) (l1:List (Int × Int)) (v w c:Int) (l2:List (List (Bool × List Nat))):Option (List (List (Bool × List Nat))) :=
ob (some ((cg l1 v).getD (0:Int),(cg l1 v).isSome)) fun(y2,y5) =>
ob (some ((cg l1 w).getD (0:Int),(cg l1 w).isSome)) fun(y3,y6) =>
ob (
br (y5) (
some y6) (
some false)) fun v0 =>
br (v0) (
gd (bJ y2 ((y4:Int).toNat)) (
ob (l2[y2.toNat]?) fun l3 =>
gd (decide (0<l3.length)) (
gd (bJ y2 ((y4:Int).toNat)) (
ob (l2[y2.toNat]?) fun l4 =>
gd (decide (0<l4.length)) (
gd (bJ y3 l4.length) (
ob (l4[y3.toNat]?) fun(x3,l5) =>
ob (ry n c) fun(r0,l6) =>
ob (A2 n x3 l5 r0 l6) fun(r1,l7) =>
gd (bJ y3 l3.length) (
gd (Nat.blt y3.toNat l3.length) (
some (l2.set y2.toNat (l3.set y3.toNat (r1,l7))))))))))) (
some l2)
theorem wm (n:Nat) (es:List (Int × Int)) (x:Nat) (p:List Int) (O:List (Int × Bool)) (T:List (Int × Int)) (s:Nat) (i:Int) (L:List (List (Bool × List Nat))) :
  q8 n es x p.length p O T s (i,L)=br (decide (i<(es.length:Int))) (gd (bJ i es.length) (ob (es[i.toNat]?) fun e=>ob (ob (CF n x e.1 e.2) fun q=>br q
   (ob (ob (ob (bL (zj n p.length p) n e.1) fun v=>some v) fun va=>ob (ob (bL (zm n p.length p) n e.2) fun v=>some v) fun vb =>
    ob (ob (some ((cg O i).getD false)) fun y=>br y (some true) (some (decide (va=vb)))) fun t=>br t (some L)
     (ob (ye n s T va va 1 L) fun L1=>ob (ye n s T vb vb 1 L1) fun L2=>ob (ye n s T va vb (-1) L2) fun L3=>ob (ye n s T vb va (-1) L3) fun L4=>some L4)) fun L5=>some L5)
   (some L)) fun L6=>some (.inl (IntKind.wrap .i64 (i+1),L6)))) (some (.inr L)):=rfl
theorem oX {n s:Nat} (hn:100<n) {P:List Nat} (hP:P.length=s) {T:List (Int × Int)} (hT:∀v:Nat,cg T (v:Int)=if v ∈ P then some ((P.idxOf v:Nat):Int) else none)
  {L:List (List (Bool × List Nat))} {M:Mt} {B:Nat} (hL:se s L M) (hM:∀r c,r<s→c<s→(M r c).natAbs≤B) (hB:B<1000) {c:Int} {t:Bool} {k:List Nat} (hc:ry n c=some (t,k)) (hg:Lg c t k) (hc1:c.natAbs≤1) (v w:Nat) :
  ∃L',ye n s T (v:Int) (w:Int) c L=some L'∧se s L' (fun a b=>M a b+if a=P.idxOf v∧b=P.idxOf w then c else 0)∧∀r c',r<s→c'<s→(M r c'+if r=P.idxOf v∧c'=P.idxOf w then c else 0).natAbs≤B+1:=by
 have hbd:∀r c',r<s→c'<s→(M r c'+if r=P.idxOf v∧c'=P.idxOf w then c else 0).natAbs≤B+1:=fun r c' h1 h2=>by
  have:=hM r c' h1 h2
  split<;>omega
 by_cases h:v ∈ P∧w ∈ P
 ·have hv:P.idxOf v<s:=by rw[←hP]; exact List.idxOf_lt_length_iff.2 h.1
  have hw:P.idxOf w<s:=by rw[←hP]; exact List.idxOf_lt_length_iff.2 h.2
  obtain⟨row,t1,k1,a1,a2,a3,a4⟩:=hL.at hv hw;have l1:k1.length≤1:=a4.len (by have:=hM _ _ hv hw; show _<18446744073709551616; omega)
  have l2:k.length≤1:=hg.len (by show _<18446744073709551616; omega)
  obtain⟨u,q,u1,u2⟩:=Bu (n:=n) a4 hg (by omega) (by omega) (by omega)
  refine⟨L.set (P.idxOf v) (row.set (P.idxOf w) (u,q)),?_,(hL.set hv hw a1 u2).congr fun a b _ _=>?_,hbd⟩
  ·unfold ye;rw[hT v,hT w,if_pos h.1,if_pos h.2];simp only[Option.getD_some,Option.isSome_some,aA,jR,Int.toNat_natCast];rw[aO hv,bD,a1,aA,dm (by omega),bD,aA,dm (by omega),a2,aO hw,bD,a3,aA]
   dsimp only
   rw[hc,aA]
   dsimp only
   rw[u1,aA]
   dsimp only
   rw[bD,BP hw,bD]
  ·by_cases h1:a=P.idxOf v∧b=P.idxOf w
   ·rw[if_pos h1,if_pos h1,h1.1,h1.2]
   ·rw[if_neg h1,if_neg h1,Int.add_zero]
 ·refine⟨L,?_,hL.congr fun a b ha hb=>?_,hbd⟩
  ·unfold ye;rw[hT v,hT w]
   by_cases hv:v ∈ P
   ·have hw:w ∉ P:=fun e=>h ⟨hv,e⟩;rw[if_pos hv,if_neg hw]; rfl
   ·rw[if_neg hv]
    by_cases hw:w ∈ P
    ·rw[if_pos hw]; rfl
    ·rw[if_neg hw]; rfl
  ·have h1:¬(a=P.idxOf v∧b=P.idxOf w):=fun e=>h ⟨List.idxOf_lt_length_iff.1 (by rw[←e.1,hP]; exact ha),List.idxOf_lt_length_iff.1 (by rw[←e.2,hP]; exact hb)⟩
   rw[if_neg h1,Int.add_zero]
def ki (es:List (Int × Int)) (x:Nat) (O:List (Int × Bool)) (i:Nat):Bool:=qX es x (i:Int) && !(cg O (i:Int)).getD false
def kl (es:List (Int × Int)) (x:Nat) (O:List (Int × Bool)) (i:Nat):List (Nat × Nat):=((List.range i).filter (ki es x O)).map fun(k:Nat)=>eg es (k:Int)
theorem Ec (es:List (Int × Int)) (x:Nat) (O:List (Int × Bool)) (i:Nat):kl es x O (i+1)=if ki es x O i then kl es x O i++[eg es (i:Int)] else kl es x O i:=by
 unfold kl;rw[List.range_succ,List.filter_append,List.filter_cons]
 split<;>simp
theorem B2 (es:List (Int × Int)) (x:Nat) (O:List (Int × Bool)) (i:Nat):(kl es x O i).length≤i:=by
 unfold kl;rw[List.length_map];have:=List.length_filter_le (ki es x O) (List.range i);rwa[List.length_range] at this
theorem ue (φ:Nat→Nat) (e:Nat × Nat) (a b:Nat):∀E,iz φ (E++[e]) a b=iz φ E a b+dl φ e a*dl φ e b
 | []=>by simp[iz]
 | d::E=>by
  rw[List.cons_append];simp only[iz];rw[ue φ e a b E];omega
theorem GO (φ:Nat→Nat) (e:Nat × Nat) (a:Nat):dl φ e a=0∨dl φ e a=1∨dl φ e a = -1:=by
 unfold dl
 split<;>split<;>simp
theorem xl (φ:Nat→Nat) (a b:Nat):∀E,(iz φ E a b).natAbs≤E.length
 | []=>by simp[iz]
 | d::E=>by
  have:=xl φ a b E;simp only[iz,List.length_cons];rcases GO φ d a with h|h|h<;>rcases GO φ d b with h' | h' | h'<;>rw[h,h']<;>omega
theorem Eg (m:Int) {p q u w:Prop} [Decidable p] [Decidable q] [Decidable u] [Decidable w] :
  m+(if p∧u then 1 else 0)+(if q∧w then 1 else 0)+(if p∧w then -1 else 0)+(if q∧u then -1 else 0)=m+((if p then 1 else 0)-(if q then 1 else 0))*((if u then 1 else 0)-(if w then 1 else 0)):=by
 by_cases hp:p<;>by_cases hq:q<;>by_cases hu:u<;>by_cases hw:w<;>simp[hp,hq,hu,hw]<;>try omega
theorem Bd {N:Nat} {es:List (Int × Int)} (h:Okay N es) {n x:Nat} (hx:x<2 ^ 64) (hn:200<n) {p:List Int} {r:Nat→Nat} (hp:Fst p r) (O:List (Int × Bool))
  {P:List Nat} {s:Nat} (hP:P.length=s) {T:List (Int × Int)} (hT:∀v:Nat,cg T (v:Int)=if v ∈ P then some ((P.idxOf v:Nat):Int) else none)
  {L:List (List (Bool × List Nat))} (hL:se s L fun _ _=>0) :
  ∃L',bL (q8 n es x p.length p O T s) n (0,L)=some L'∧se s L' (iz (fun v=>P.idxOf (r v)) (kl es x O es.length)):=by
 have hlen:=h.len;refine mP (body:=q8 n es x p.length p O T s) es.length (fun(l:List (List (Bool × List Nat))) (v:Int)=>(v,l)) id (fun i l=>se s l (iz (fun v=>P.idxOf (r v)) (kl es x O i))) (fun l i hi hI=>?_) (fun l _=>?_) (n:=n) hL (by omega)
 ·obtain⟨a,b,g1,g2,g3,g4,_,g5⟩:=tP h (k:=(i:Int)) ⟨by omega,by omega⟩
  rw[Int.toNat_natCast] at g1;have ha:a<64:=by omega
  have hin:qX es x (i:Int)=(x.testBit a && x.testBit b):=by
   simp only[qX,g2];rw[decide_eq_true ⟨by omega,by omega⟩,Bool.true_and]
  rw[wm,cj (by omega),aO hi,bD,Int.toNat_natCast,g1,aA]
  dsimp only
  rw[tv n x a b hx ha g4,aA,cT (by omega)]
  rw[Ec];unfold ki;rw[hin,g2]
  by_cases h3:(x.testBit a && x.testBit b)=true
  ·rw[h3,jR,Br,BC,hp.root n a n ha (by omega),hp.root n b n g4 (by omega)]
   simp only[aA,Bool.true_and]
   by_cases h4:(cg O (i:Int)).getD false=true
   ·rw[h4,jR,aA,jR,aA,aA];exact⟨l,rfl,hI⟩
   ·rw[Bool.not_eq_true] at h4;rw[h4,jx,aA,Bool.not_false,if_pos rfl]
    by_cases h5:r a=r b
    ·rw[cj (by omega),aA,aA]
     refine⟨l,rfl,hI.congr fun c d _ _=>?_⟩;rw[ue];simp[dl,h5]
    ·rw[cz (by omega)]
     have hM:∀c d,c<s→d<s→(iz (fun v=>P.idxOf (r v)) (kl es x O i) c d).natAbs≤200:=fun c d _ _=>by
      have h1:=xl (fun v=>P.idxOf (r v)) c d (kl es x O i);have h2:=B2 es x O i;omega
     obtain⟨L1,m1,n1,b1⟩:=oX (n:=n) (by omega) hP hT hI hM (by omega) (sW (by omega)) xM (by decide) (r a) (r a)
     obtain⟨L2,m2,n2,b2⟩:=oX (n:=n) (by omega) hP hT n1 b1 (by omega) (sW (by omega)) xM (by decide) (r b) (r b)
     obtain⟨L3,m3,n3,b3⟩:=oX (n:=n) (by omega) hP hT n2 b2 (by omega) (yC (by omega)) BX (by decide) (r a) (r b)
     obtain⟨L4,m4,n4,b4⟩:=oX (n:=n) (by omega) hP hT n3 b3 (by omega) (yC (by omega)) BX (by decide) (r b) (r a)
     refine⟨L4,by rw[m1,aA,m2,aA,m3,aA,m4,aA,aA,aA],n4.congr fun c d _ _=>?_⟩
     rw[ue];exact Eg _
  ·rw[Bool.not_eq_true] at h3;rw[h3,jx,aA];exact⟨l,rfl,hI⟩
 ·rw[wm,cz (by omega)]; rfl
theorem rn {f:Nat→Int} {C:Nat}:∀n,(∀i,i<n→(f i).natAbs≤C)→(sm n f).natAbs≤n*C
 | 0,_=>by simp[sm]
 | n+1,h=>by
  have h1:=rn n fun i hi=>h i (by omega)
  have h2:=h n (by omega)
  simp only[sm];rw[Nat.add_mul,Nat.one_mul];omega
theorem Aj (i:Nat) (x:Int):(sg i*x).natAbs=x.natAbs:=by
 unfold sg
 split<;>simp
theorem Bz {C N:Nat}:∀(n:Nat) (A:Mt),n≤N→(∀r c,r<n→c<n→(A r c).natAbs≤C)→(cA n A).natAbs≤(N*C) ^ n
 | 0,_,_,_=>by simp[cA]
 | n+1,A,hn,h=>by
  simp only[cA];have:=rn (C:=C*(N*C) ^ n) (n+1) (f:=fun i=>sg i*(A i 0*cA n (nb A i))) fun i hi=>by
   rw[Aj,Int.natAbs_mul];exact Nat.mul_le_mul (h i 0 hi (by omega)) (Bz n (nb A i) (by omega) fun r c hr hc=>h _ _ (yc hr) (by omega))
  refine Nat.le_trans ?_ (Nat.le_trans this ?_)
  ·refine Nat.le_of_eq (congrArg Int.natAbs (gL fun i _=>?_));simp only[Int.mul_assoc]
  ·rw[Nat.pow_succ,Nat.mul_comm ((N*C) ^ n),←Nat.mul_assoc];exact Nat.mul_le_mul_right _ (Nat.mul_le_mul_right _ hn)
theorem zR (φ:Nat→Nat) (E:List (Nat × Nat)) (hE:E.length≤200) {k r c:Nat} (hk:k<64):(cA (k+1) (jv (iz φ E) k r c)).natAbs<wp 15:=by
 have h1:=Bz (C:=200) (N:=64) (k+1) (jv (iz φ E) k r c) (by omega) fun a b _ _=>Nat.le_trans (xl φ _ _ E) hE
 have h2:(64*200) ^ (k+1)≤(64*200) ^ 64:=Nat.pow_le_pow_right (by decide) (by omega)
 have h3:(64*200) ^ 64<wp 15:=by decide
 omega
theorem sT (x:Nat) (r:Nat→Nat) (g:Nat):(qG x r g 64).length≤64:=by
 unfold qG;have:=List.length_filter_le (IT x r g) (List.range 64);rwa[List.length_range] at this
def rW (es:List (Int × Int)) (x:Nat) (W:List (Int × Bool)):Nat→Nat:=(wl es x W 0 es.length).foldl cy fun x=>x
def pW (es:List (Int × Int)) (x:Nat) (W:List (Int × Bool)):List Nat:=qG x (rW es x W) (rW es x W (tz x)) 64
def mW (es:List (Int × Int)) (x:Nat) (W O:List (Int × Bool)):Mt:=iz (fun v=>(pW es x W).idxOf (rW es x W v)) (kl es x O es.length)
theorem GQ {N:Nat} {es:List (Int × Int)} (h:Okay N es) {n x:Nat} (hx:x<2 ^ 64) (h0:0<x) (hn:300<n) (x1:Int) (W O:List (Int × Bool)) :
  (de (fun x=>x) (wl es x W 0 es.length)=false→tx n x1 es x W O=some (false,[])) ∧
  (de (fun x=>x) (wl es x W 0 es.length)=true→(∀k,k<(pW es x W).length→(cA k (mW es x W O)).natAbs<18446744073709551616) →
   ∃t q,tx n x1 es x W O=some (t,q)∧Lg (Gc (pW es x W).length 0 (mW es x W O) 1) t q):=by
 have hlen:=h.len;obtain⟨p0,f1,f2⟩:=Ez n (by omega)
 have f3:=BQ h hx (show 64<n by omega) W es.length 0 n p0 (fun x=>x) [] (by omega) (by omega) f2 Rt.id
 have hF:I7 n x=some ((tz x:Nat):Int):=by unfold I7; rw[dm hx]
 have htz:tz x<64:=Dn hx (Hb h0 hx).1;refine⟨fun ha=>?_,fun ha hP=>?_⟩
 ·obtain⟨p',k,g1⟩:=f3.2 ha;unfold tx;rw[f1,aA,aA];rw[show(0:Int)=((0:Nat):Int) from rfl,g1]
  rfl
 ·obtain⟨p,E',g1,hp,hr⟩:=f3.1 ha
  change Fst p (rW es x W) at hp
  clear hr;obtain⟨T,t1,t2,t3⟩:=A7 (n:=n) hx (by omega) hp (rW es x W (tz x))
  obtain⟨L,l1,l2⟩:=Ci (n:=n) (sT x (rW es x W) (rW es x W (tz x))) (by omega) T t2
  obtain⟨L',m1,m2⟩:=Bd h hx (by omega:200<n) hp O rfl t3 l2
  have hs:=sT x (rW es x W) (rW es x W (tz x));have hD:∀k r c,k<(pW es x W).length→r<(pW es x W).length→c<(pW es x W).length→(cA (k+1) (jv (mW es x W O) k r c)).natAbs<wp 15:=fun k r c hk _ _=>zR _ _ (Nat.le_trans (B2 _ _ _ _) hlen) (Nat.lt_of_lt_of_le hk hs);obtain⟨t,q,h1,h2⟩:=Av (n:=n) (by omega) hs hD hP (pW es x W).length 0 n L' (mW es x W O) 1 false [1] (Nat.add_zero _) (Nat.lt_of_le_of_lt hs (by omega)) m2 (Bar.start _ _) xM
  refine⟨t,q,?_,h2⟩;unfold tx;rw[f1,aA,aA];rw[show(0:Int)=((0:Nat):Int) from rfl,g1]
  dsimp only[aA]
  rw[hF,aA,CN,hp.root n (tz x) n htz (by omega)]
  dsimp only[aA,Option.map_some]
  have t1':bL (nX n x p.length p ((rW es x W (tz x):Nat):Int)) n (([]:List (Int × Int)),((0:Nat):Int))=some T:=t1;rw[t1',aA,t2,dm (by omega),Int.toNat_natCast,nG (by omega),bD]
  have l1':bL (pN n (qG x (rW es x W) (rW es x W (tz x)) 64).length T) n (List.replicate (qG x (rW es x W) (rW es x W (tz x)) 64).length ([]:List (Bool × List Nat)),((0:Nat):Int))=some L:=l1;rw[l1',aA];have m1':bL (q8 n es x p.length p O T (qG x (rW es x W) (rW es x W (tz x)) 64).length) n (((0:Nat):Int),L)=some L':=m1;rw[m1',aA,aA,sW (by omega),aA]
  have h1':bL (iu n (qG x (rW es x W) (rW es x W (tz x)) 64).length) n (L',false,[1],((0:Nat):Int))=some (.inl (t,q))∨bL (iu n (qG x (rW es x W) (rW es x W (tz x)) 64).length) n (L',false,[1],((0:Nat):Int))=some (.inr (t,q)):=h1;rcases h1' with h1|h1<;>rw[h1]<;>rfl
theorem yv {l:List Nat} {a b:Nat} (ha:a ∈ l) (h:l.idxOf a=l.idxOf b):a=b:=by
 have h1:l.idxOf a<l.length:=List.idxOf_lt_length_iff.2 ha;have e1:l[l.idxOf a]? = some a:=by rw[List.getElem?_eq_getElem h1,List.getElem_idxOf]
 have h2:l.idxOf b<l.length:=by rw[←h]; exact h1
 have e2:l[l.idxOf b]? = some b:=by rw[List.getElem?_eq_getElem h2,List.getElem_idxOf]
 rw[h,e2] at e1;exact(Option.some.inj e1).symm
theorem xV {l:List Nat} {a:Nat}:l.idxOf a≤l.length:=List.idxOf_le_length
def kx (es:List (Int × Int)) (x:Nat) (O:List (Int × Bool)):List Int:=((List.range es.length).filter (ki es x O)).map fun(k:Nat)=>(k:Int)
theorem Bh (es:List (Int × Int)) (x:Nat) (O:List (Int × Bool)):(kx es x O).map (eg es)=kl es x O es.length:=by
 unfold kx kl;rw[List.map_map]; rfl
theorem HY {es:List (Int × Int)} {x:Nat} {O:List (Int × Bool)} {k:Int} (h:k ∈ kx es x O):qX es x k=true:=by
 obtain⟨m,h1,rfl⟩:=List.mem_map.1 h;have:=(List.mem_filter.1 h1).2;unfold ki at this;rw[Bool.and_eq_true] at this;exact this.1
theorem yV {N:Nat} {es:List (Int × Int)} (h:Okay N es) {x:Nat} {k:Int} (hk:qX es x k=true):(eg es k).1 ∈ jS x 64∧(eg es k).2 ∈ jS x 64:=by
 obtain⟨h1,h2,h3⟩:=wR hk;obtain⟨a,b,_,e,e1,e2,_⟩:=tP h h1;rw[e] at h2 h3 ⊢;exact⟨gX.2 ⟨by omega,h2⟩,gX.2 ⟨e2,h3⟩⟩
theorem IP {N:Nat} {es:List (Int × Int)} (h:Okay N es) {x:Nat} {W:List (Int × Bool)} {i j:Nat}:∀e ∈ wl es x W i j,e.1 ∈ jS x 64∧e.2 ∈ jS x 64:=fun e he=>by
 obtain⟨m,h1,rfl⟩:=List.mem_map.1 he;have:=(List.mem_filter.1 h1).2;unfold wi at this;rw[Bool.and_eq_true] at this;exact yV h this.1
section
variable {N : Nat} {es : List (Int × Int)} {x : Nat} {W O : List (Int × Bool)}
theorem Js:Rt (rW es x W) (wl es x W 0 es.length).reverse:=tO _
theorem Ba (h:Okay N es) {v:Nat} (hv:v ∈ jS x 64):rW es x W v ∈ jS x 64:=(kD (q9 x) (IP h)).2 v hv
theorem Cc {v:Nat}:v ∈ pW es x W↔v ∈ jS x 64∧rW es x W v=v∧v≠rW es x W (tz x):=by
 unfold pW qG IT;rw[List.mem_filter,List.mem_range,gX];simp[and_assoc]
theorem IZ (h:Okay N es) {v w:Nat} (hv:v ∈ jS x 64) (hw:w ∈ jS x 64):rW es x W v=rW es x W w↔(pW es x W).idxOf (rW es x W v)=(pW es x W).idxOf (rW es x W w):=by
 refine⟨fun e=>by rw[e],fun e=>?_⟩
 have hrr:=fun v=>(Js (es:=es) (x:=x) (W:=W)).rr v
 by_cases h1:rW es x W v ∈ pW es x W
 ·exact yv h1 e
 ·by_cases h2:rW es x W w ∈ pW es x W
  ·exact(yv h2 e.symm).symm
  ·have g1:rW es x W v=rW es x W (tz x):=Classical.byContradiction fun hc=>h1 (Cc.2 ⟨Ba h hv,hrr v,hc⟩);have g2:rW es x W w=rW es x W (tz x):=Classical.byContradiction fun hc=>h2 (Cc.2 ⟨Ba h hw,hrr w,hc⟩);rw[g1,g2]
theorem Gz (s:Nat):dg s (fun i=>i)=s:=by
 unfold dg;rw[List.filter_eq_self.2 (fun i _=>by simp)]
 exact List.length_range
end
theorem xd {s:Nat}:∀(E:List (Nat × Nat)) (ρ:Nat→Nat),Rho s ρ→(∀e ∈ E,e.1≤s∧e.2≤s)→oQ s ρ E≤cb E.length (dg s ρ)
 | [],ρ,h,_=>by
  simp only[oQ,List.length_nil]
  by_cases h0:dg s ρ=0
  ·rw[if_pos (kk.1 h0),h0]; exact Nat.le_refl _
  ·rw[if_neg (fun e=>h0 (kk.2 e))]; exact Nat.zero_le _
 | (a,b)::E,ρ,h,hE=>by
  have ha:a≤s:=(hE (a,b) List.mem_cons_self).1;have hb:b≤s:=(hE (a,b) List.mem_cons_self).2;have hE':∀e ∈ E,e.1≤s∧e.2≤s:=fun e he=>hE e (List.mem_cons_of_mem _ he);have h1:=xd E ρ h hE';simp only[oQ,List.length_cons]
  by_cases hab:ρ a=ρ b
  ·rw[if_pos hab];exact Nat.le_trans h1 (yG (Nat.le_succ _) _)
  ·rw[if_neg hab];have h2:=xd E _ (h.step ha hb hab) hE';have h3:=zv h ha hb hab;rw[h3] at h1 ⊢;rw[tC];omega
theorem AE (φ:Nat→Nat) (E:List (Nat × Nat)) (k:Nat):(cA k (iz φ E)).natAbs≤cb E.length k:=by
 rw[qu];have:=xd (s:=k) (iD (fun v=>uo k (φ v)) E) (fun i=>i) (Rho.id k) fun e he=>by
  unfold iD at he;obtain⟨e',_,rfl⟩:=List.mem_map.1 he;exact⟨nj _ _,nj _ _⟩
 rw[Gz] at this;unfold iD at this;rw[List.length_map] at this;exact this
section
variable {N : Nat} {es : List (Int × Int)} {x : Nat} {W O : List (Int × Bool)}
theorem Fv (h:Okay N es) {n:Nat} (hx:x<2 ^ 64) (h0:0<x) (hn:300<n) (x1:Int) (hk:∀k,k<(pW es x W).length→cb (kx es x O).length k<18446744073709551616) :
  (de (fun x=>x) (wl es x W 0 es.length)=false→tx n x1 es x W O=some (false,[])) ∧
  (de (fun x=>x) (wl es x W 0 es.length)=true→∃t q,tx n x1 es x W O=some (t,q)∧Lg ((gw es (kx es x O) (pW es x W).length (rW es x W)).length:Int) t q):=by
 have hF:=GQ h hx h0 hn x1 W O;refine⟨hF.1,fun ha=>?_⟩;have hkl:(kl es x O es.length).length=(kx es x O).length:=by rw[←Bh,List.length_map]
 obtain⟨t,q,h1,h2⟩:=hF.2 ha fun k hk'=>by
  have:=AE (fun v=>(pW es x W).idxOf (rW es x W v)) (kl es x O es.length) k;have h3:=hk k hk';rw[hkl] at this;unfold mW;omega
 refine⟨t,q,h1,?_⟩;have e1:Gc (pW es x W).length 0 (mW es x W O) 1=_:=Ft (fun v=>(pW es x W).idxOf (rW es x W v)) (kl es x O es.length) (pW es x W).length fun e _=>⟨xV,xV⟩;have e2:=xU (es:=es) (V:=fun v=>v ∈ jS x 64) (s:=(pW es x W).length) (ψ:=fun v=>(pW es x W).idxOf (rW es x W v)) (fun v _=>xV) (kx es x O) (rW es x W) (fun i=>i) (Rho.id _) (fun v w hv hw=>IZ h hv hw) (fun k hk=>yV h (HY hk));rw[Gz,Bh] at e2;rw[e1,←e2] at h2;exact h2
end
def yf (l:List Nat):List Nat:=List.zipWith (· + ·) (0::l) l
def rD (K:Nat):Nat→List Nat
 | 0=>1::List.replicate K 0
 | e+1=>yf (rD K e)
theorem md (K:Nat):∀e k,k≤K→(rD K e)[k]? = some (cb e k)
 | 0,0,_=>rfl
 | 0,k+1,h=>by
  show(List.replicate K 0)[k]? = some 0
  rw[List.getElem?_replicate,if_pos (by omega)]
 | e+1,0,h=>by
  have:=md K e 0 h;unfold rD yf;rw[List.getElem?_zipWith,this,List.getElem?_cons_zero,oY,oY]
 | e+1,k+1,h=>by
  have h1:=md K e k (by omega)
  have h2:=md K e (k+1) h;unfold rD yf;rw[List.getElem?_zipWith,h2,List.getElem?_cons_succ,h1,tC]
theorem Cz {K e B:Nat} (h:(rD K e).all (fun x=>Nat.blt x B)=true) {k:Nat} (hk:k≤K):cb e k<B:=by
 have:=List.all_eq_true.1 h _ (List.mem_of_getElem? (md K e k hk));rwa[Nat.blt_eq] at this
def Iw (es:List (Int × Int)):List Int→Nat→(Nat→Nat)→Nat
 | _,0,_=>1
 | [],_+1,_=>0
 | k::L,d+1,r=>if L.length<d then 0 else(if r (eg es k).1=r (eg es k).2 then 0 else Iw es L d (cy r (eg es k)))+Iw es L (d+1) r
theorem qB (es:List (Int × Int)):∀(L:List Int) (d:Nat) (r:Nat→Nat),L.length<d→gw es L d r = []
 | _,0,_,h=>by omega
 | [],_+1,_,_=>rfl
 | k::L,d+1,r,h=>by
  rw[List.length_cons] at h;unfold gw;rw[qB es L d _ (by omega),qB es L (d+1) r (by omega)]
  split<;>rfl
theorem xy (es:List (Int × Int)):∀(L:List Int) (d:Nat) (r:Nat→Nat),(gw es L d r).length=Iw es L d r
 | _,0,_=>by
  unfold gw Iw; rfl
 | [],_+1,_=>rfl
 | k::L,d+1,r=>by
  by_cases h:L.length<d
  ·rw[qB es _ _ r (show(k::L).length<d+1 by rw[List.length_cons]; omega)]
   unfold Iw; rw[if_pos h]; rfl
  ·unfold gw Iw;rw[if_neg h,List.length_append,xy es L (d+1) r]
   split
   ·rfl
   ·rw[List.length_map,xy es L d _]
def Kr (r r':Nat→Nat):Prop:=∀v w,r v=r w↔r' v=r' w
theorem Kr.join {r r':Nat→Nat} (h:Kr r r') (e:Nat × Nat):Kr (cy r e) (cy r' e):=by
 intro v w
 by_cases h1:r e.1=r e.2
 ·rw[lL h1,lL ((h _ _).1 h1)]; exact h v w
 ·rw[mY h1,mY (fun g=>h1 ((h _ _).2 g)),h v w,h v e.1,h v e.2,h w e.1,h w e.2]
def hv (k:Int) (T:List (List Int)):Nat:=(T.filter fun t=>t.contains k).length
def gt (W:List (Int × Bool)) (k:Nat):Bool:=(cg W (k:Int)).getD false
structure Dcd (es:List (Int × Int)) (x:Nat) (W O:List (Int × Bool)) (i:Nat):Prop where
 lt:∀k,k<i→qX es x (k:Int)=true→gt W k = !gt O k
 ge:∀k,i≤k→gt W k=false∧gt O k=false
def hd (es:List (Int × Int)) (x:Nat) (W:List (Int × Bool)) (i:Nat):List Int:=((List.range i).filter (wi es x W)).map fun(k:Nat)=>(k:Int)
section
variable {N : Nat} {es : List (Int × Int)} {x i : Nat} {W O : List (Int × Bool)}
def rh (es:List (Int × Int)) (x:Nat) (W:List (Int × Bool)) (i:Nat):Nat→Nat:=rep ((hd es x W i).map (eg es))
theorem Dcd.skip (h:Dcd es x W O i) (hin:qX es x (i:Int)=false):Dcd es x W O (i+1):=by
 refine⟨fun k hk hk2=>?_,fun k hk=>h.ge k (by omega)⟩
 by_cases hki:k=i
 ·subst hki; rw[hin] at hk2; cases hk2
 ·exact h.lt k (by omega) hk2
end
section
variable {N : Nat} {es : List (Int × Int)} {x : Nat}
def G (es:List (Int × Int)) (x:Nat) (W:List (Int × Bool)) (i:Nat):List (List Int):=gw es (il es x i (es.length-i)) (rk x 64-1-(hd es x W i).length) (rh es x W i)
structure Uv (es:List (Int × Int)) (x:Nat) (z:Int) (tgt:List Int) (i:Nat) (s:Bool) (l:List Nat) (W O:List (Int × Bool)) (tr:List Int) (zi:Int):Prop where
 dcd:Dcd es x W O i
 fresh:∀k:Nat,i≤k→cg W (k:Int)=none
 join:de (fun x=>x) ((hd es x W i).map (eg es))=true
 tr:tr=hd es x W i
 lg:Lg zi s l
 lo:0≤zi
 hi:zi≤z
 len:(hd es x W i).length+1≤rk x 64
 at_:∃t,(G es x W i)[zi.toNat]? = some t∧hd es x W i++t=tgt
end
end Go.Proofs.YtookeaakpiefjaaDoor
end

section
namespace Go.Proofs.YtookeaakpiefjaaDoor
open Go Go.Ab Go.Ab.W Go.Ab.T30
set_option maxRecDepth 100000
def qW:List (Int × Int):=(0,1)::(0,63)::(List.range 62).map fun(i:Nat)=>((i:Int)+1,(i:Int)+2)
theorem He:Le ((64:Nat):Int) qW=true:=by decide +kernel
theorem A8:Okay 64 qW:=by
 obtain⟨M,e,h⟩:=ES He;have:M=64:=by omega
 subst this; exact h
theorem Lo:(rD 64 64).all (fun x=>Nat.blt x 18446744073709551616)=true:=by decide +kernel
theorem Fl {c:Nat} {t:Bool} {q:List Nat} (h0:c≠0) (hc:c<18446744073709551616) (h:Lg (c:Int) t q):t=false∧q = [c]:=by
 have:=h.inj (Lg.small h0 hc false);exact this
theorem sw {x:Nat} {W:List (Int × Bool)} {c:Nat} (hx:x<2 ^ 64) (h0:0<x) (hW:de (fun x=>x) (wl qW x W 0 qW.length)=true) (hk:(kx qW x []).length≤64) (hc:Iw qW (kx qW x []) (pW qW x W).length (rW qW x W)=c) (hc0:c≠0) (hcb:c<18446744073709551616) :
  tx 2000 64 qW x W []=some (false,[c]):=by
 obtain⟨t,q,h1,h2⟩:=(Fv (W:=W) (O:=[]) A8 hx h0 (show 300<2000 by decide) 64 (fun k hk'=>by
  have h1:=sT x (rW qW x W) (rW qW x W (tz x));have h2:k≤64:=Nat.le_of_lt (Nat.lt_of_lt_of_le hk' h1);exact Nat.lt_of_le_of_lt (yG hk k) (Cz Lo h2))).2 hW
 rw[xy,hc] at h2;obtain⟨rfl,rfl⟩:=Fl hc0 hcb h2;exact h1
set_option maxHeartbeats 0 in
theorem zN:tx 2000 64 qW 18446744073709551615 [] []=some (false,[64]):=by
 refine sw (by decide) (by decide) (by decide +kernel) (by decide +kernel) ?_ (by decide) (by decide)
 kernel_rfl
set_option maxHeartbeats 0 in
theorem Di:tx 2000 64 qW 18446744073709551614 [] []=some (false,[1]):=by
 refine sw (by decide) (by decide) (by decide +kernel) (by decide +kernel) ?_ (by decide) (by decide)
 kernel_rfl
set_option maxHeartbeats 0 in
theorem BS:tx 2000 64 qW 18446744073709551615 [(1,true)] []=some (false,[63]):=by
 refine sw (by decide) (by decide) (by decide +kernel) (by decide +kernel) ?_ (by decide) (by decide)
 kernel_rfl
end Go.Proofs.YtookeaakpiefjaaDoor
end

section
namespace Go.Proofs.YtookeaakpiefjaaDoor
open Go Go.Ab Go.Ab.W
set_option maxRecDepth 100000
def xm {σ ρ:Type} (body:σ→Option (σ ⊕ ρ)):Nat→σ→Option σ
 | 0,s=>some s
 | k+1,s=>match body s with
  | some (.inl s')=>xm body k s'
  | _=>none
theorem ec {σ ρ:Type} {body:σ→Option (σ ⊕ ρ)} {n:Nat}:∀{k:Nat} {s s':σ},xm body k s=some s'→bL body (n+k) s=bL body n s'
 | 0,s,s',h=>by
  have:s=s':=Option.some.inj h;rw[this]; rfl
 | k+1,s,s',h=>by
  unfold xm at h
  split at h
  ·rename_i s1 h1
   show bL body (n+k+1) s=_
   simp only[bL,h1];exact ec h
  ·cases h
def lO:List (Int × Int):=[(0,1),(0,2),(0,3),(0,4),(0,5),(0,6),(0,7),(0,8),(0,9),(1,2),(1,3),(1,4),(1,5),(1,6),(1,7),(1,8),(1,9),(2,3),(2,4),(2,5),(2,6),(2,7),(2,8),(2,9),(3,4),(3,5),(3,6),(3,7),(3,8),(3,9),(4,5),(4,6),(4,7),(4,8),(4,9),(5,6),(5,7),(5,8),(5,9),(6,7),(6,8),(6,9),(7,8),(7,9),(8,9)]
theorem H0:GI 2000 10=some (10,lO):=by kernel_rfl
def L0:List (Int × Int):=[(0,1),(0,4),(1,2),(1,5),(2,3),(2,6),(3,7),(4,5),(4,8),(5,6),(5,9),(6,7),(6,10),(7,11),(8,9),(8,12),(9,10),(9,13),(10,11),(10,14),(11,15),(12,13),(13,14),(14,15)]
theorem IF:bL (Ir 2000) 2000 (([]:List (Int × Int)),0)=some L0:=by kernel_rfl
set_option maxHeartbeats 0 in
theorem FH:ym 2000 16 L0 65535=some (100352,0,0,0,0,0,0,0,0):=by kernel_rfl
set_option maxHeartbeats 0 in
theorem KY:xm (tD 2000) 8 (true,1)=some (true,9):=by kernel_rfl
set_option maxHeartbeats 0 in
theorem Lj:xm (tD 2000) 2 (true,9)=some (true,11):=by kernel_rfl
set_option maxHeartbeats 0 in
theorem KT:xm (tD 2000) 2 (true,11)=some (true,13):=by kernel_rfl
theorem Jn:bL (tD 2000) 2000 (true,1)=some true:=by
 have h1:bL (tD 2000) (1992+8) (true,1)=_:=ec KY;have h2:bL (tD 2000) (1990+2) (true,9)=_:=ec Lj;have h3:bL (tD 2000) (1988+2) (true,11)=_:=ec KT;exact h1.trans (h2.trans (h3.trans (by kernel_rfl)))
set_option maxHeartbeats 0 in
theorem Ij:DZ 2000 10 lO 1023 44=some (1,0,0,0,0,0,0,0,5,0,0,0,0,0,0,0,0):=by kernel_rfl
def GK:List Int:=[0,1,2,3,4,5,6,7,8,9,10,11,12,13,14,15,16,17,18,19,20,21,22,23,24,25,26,27,28,29,30,31,32,33,34,35,36,37,38,39,40,41,42,43,44]
set_option maxHeartbeats 0 in
theorem zp:tx 2000 10 lO 1023 [] []=some (false,[100000000]):=by kernel_rfl
set_option maxHeartbeats 0 in
theorem C8:FV 2000 10 lO 1023=some 0:=by kernel_rfl
set_option maxHeartbeats 0 in
theorem My:xm (fT 2000 lO 1023 10) 15 (0,false,[99999999],[],[],[])=some (15,false,[589823],[(8,true)],[(0,true),(1,true),(2,true),(3,true),(4,true),(5,true),(6,true),(7,true),(9,true),(10,true),(11,true),(12,true),(13,true),(14,true)],[8]):=by kernel_rfl
set_option maxHeartbeats 0 in
theorem LL:xm (fT 2000 lO 1023 10) 15 (15,false,[589823],[(8,true)],[(0,true),(1,true),(2,true),(3,true),(4,true),(5,true),(6,true),(7,true),(9,true),(10,true),(11,true),(12,true),(13,true),(14,true)],[8])=some (30,false,[1295],[(8,true),(16,true),(23,true),(29,true)],[(0,true),(1,true),(2,true),(3,true),(4,true),(5,true),(6,true),(7,true),(9,true),(10,true),(11,true),(12,true),(13,true),(14,true),(15,true),(17,true),(18,true),(19,true),(20,true),(21,true),(22,true),(24,true),(25,true),(26,true),(27,true),(28,true)],[8,16,23,29]):=by kernel_rfl
set_option maxHeartbeats 0 in
theorem KS:xm (fT 2000 lO 1023 10) 15 (30,false,[1295],[(8,true),(16,true),(23,true),(29,true)],[(0,true),(1,true),(2,true),(3,true),(4,true),(5,true),(6,true),(7,true),(9,true),(10,true),(11,true),(12,true),(13,true),(14,true),(15,true),(17,true),(18,true),(19,true),(20,true),(21,true),(22,true),(24,true),(25,true),(26,true),(27,true),(28,true)],[8,16,23,29])=some (45,false,[],[(8,true),(16,true),(23,true),(29,true),(34,true),(38,true),(41,true),(43,true),(44,true)],[(0,true),(1,true),(2,true),(3,true),(4,true),(5,true),(6,true),(7,true),(9,true),(10,true),(11,true),(12,true),(13,true),(14,true),(15,true),(17,true),(18,true),(19,true),(20,true),(21,true),(22,true),(24,true),(25,true),(26,true),(27,true),(28,true),(30,true),(31,true),(32,true),(33,true),(35,true),(36,true),(37,true),(39,true),(40,true),(42,true)],[8,16,23,29,34,38,41,43,44]):=by kernel_rfl
theorem Kk:bL (fT 2000 lO 1023 10) 2000 (0,false,[99999999],[],[],[])=some (false,[],[(8,true),(16,true),(23,true),(29,true),(34,true),(38,true),(41,true),(43,true),(44,true)],[(0,true),(1,true),(2,true),(3,true),(4,true),(5,true),(6,true),(7,true),(9,true),(10,true),(11,true),(12,true),(13,true),(14,true),(15,true),(17,true),(18,true),(19,true),(20,true),(21,true),(22,true),(24,true),(25,true),(26,true),(27,true),(28,true),(30,true),(31,true),(32,true),(33,true),(35,true),(36,true),(37,true),(39,true),(40,true),(42,true)],[8,16,23,29,34,38,41,43,44]):=by
 have h1:bL (fT 2000 lO 1023 10) (1985+15) _=_:=ec My;have h2:bL (fT 2000 lO 1023 10) (1970+15) _=_:=ec LL;have h3:bL (fT 2000 lO 1023 10) (1955+15) _=_:=ec KS;exact h1.trans (h2.trans (h3.trans (by kernel_rfl)))
set_option maxHeartbeats 0 in
theorem Mq:xm (fT 2000 lO 1023 10) 15 (0,false,[],[],[],[])=some (15,false,[],[(0,true),(1,true),(2,true),(3,true),(4,true),(5,true),(6,true),(7,true),(8,true)],[(9,true),(10,true),(11,true),(12,true),(13,true),(14,true)],[0,1,2,3,4,5,6,7,8]):=by kernel_rfl
set_option maxHeartbeats 0 in
theorem KW:xm (fT 2000 lO 1023 10) 15 (15,false,[],[(0,true),(1,true),(2,true),(3,true),(4,true),(5,true),(6,true),(7,true),(8,true)],[(9,true),(10,true),(11,true),(12,true),(13,true),(14,true)],[0,1,2,3,4,5,6,7,8])=some (30,false,[],[(0,true),(1,true),(2,true),(3,true),(4,true),(5,true),(6,true),(7,true),(8,true)],[(9,true),(10,true),(11,true),(12,true),(13,true),(14,true),(15,true),(16,true),(17,true),(18,true),(19,true),(20,true),(21,true),(22,true),(23,true),(24,true),(25,true),(26,true),(27,true),(28,true),(29,true)],[0,1,2,3,4,5,6,7,8]):=by kernel_rfl
set_option maxHeartbeats 0 in
theorem LH:xm (fT 2000 lO 1023 10) 15 (30,false,[],[(0,true),(1,true),(2,true),(3,true),(4,true),(5,true),(6,true),(7,true),(8,true)],[(9,true),(10,true),(11,true),(12,true),(13,true),(14,true),(15,true),(16,true),(17,true),(18,true),(19,true),(20,true),(21,true),(22,true),(23,true),(24,true),(25,true),(26,true),(27,true),(28,true),(29,true)],[0,1,2,3,4,5,6,7,8])=some (45,false,[],[(0,true),(1,true),(2,true),(3,true),(4,true),(5,true),(6,true),(7,true),(8,true)],[(9,true),(10,true),(11,true),(12,true),(13,true),(14,true),(15,true),(16,true),(17,true),(18,true),(19,true),(20,true),(21,true),(22,true),(23,true),(24,true),(25,true),(26,true),(27,true),(28,true),(29,true),(30,true),(31,true),(32,true),(33,true),(34,true),(35,true),(36,true),(37,true),(38,true),(39,true),(40,true),(41,true),(42,true),(43,true),(44,true)],[0,1,2,3,4,5,6,7,8]):=by kernel_rfl
theorem Ko:bL (fT 2000 lO 1023 10) 2000 (0,false,[],[],[],[])=some (false,[],[(0,true),(1,true),(2,true),(3,true),(4,true),(5,true),(6,true),(7,true),(8,true)],[(9,true),(10,true),(11,true),(12,true),(13,true),(14,true),(15,true),(16,true),(17,true),(18,true),(19,true),(20,true),(21,true),(22,true),(23,true),(24,true),(25,true),(26,true),(27,true),(28,true),(29,true),(30,true),(31,true),(32,true),(33,true),(34,true),(35,true),(36,true),(37,true),(38,true),(39,true),(40,true),(41,true),(42,true),(43,true),(44,true)],[0,1,2,3,4,5,6,7,8]):=by
 have h1:bL (fT 2000 lO 1023 10) (1985+15) _=_:=ec Mq;have h2:bL (fT 2000 lO 1023 10) (1970+15) _=_:=ec KW;have h3:bL (fT 2000 lO 1023 10) (1955+15) _=_:=ec LH;exact h1.trans (h2.trans (h3.trans (by kernel_rfl)))
theorem LP:DX 2000 10 lO 1023 99999999 0 0 0 0 0 0 0=some ([8,16,23,29,34,38,41,43,44],0):=by
 unfold DX;rw[C8,aA,show(!decide ((0:Int)=0))=false from rfl,jx,show Gn 2000 99999999 0 0 0 0 0 0 0=some (false,[99999999]) by kernel_rfl,aA]
 dsimp only
 rw[zp];rw[show(ob (D4 2000 false [99999999]) fun r67=>br (decide (r67<0)) (some true) (ob (some ((false,[100000000]):Bool × List Nat)) fun(r70,l71)=>ob (I3 2000 false [99999999] r70 l71) fun r76=>some (decide (0≤r76))))=some false by kernel_rfl,aA,jx,aA]
 dsimp only
 rw[Kk,aA]; rfl
theorem Lv:DX 2000 10 lO 1023 0 0 0 0 0 0 0 0=some ([0,1,2,3,4,5,6,7,8],0):=by
 unfold DX;rw[C8,aA,show(!decide ((0:Int)=0))=false from rfl,jx,show Gn 2000 0 0 0 0 0 0 0 0=some (false,[]) by kernel_rfl,aA]
 dsimp only
 rw[zp];rw[show(ob (D4 2000 false []) fun r67=>br (decide (r67<0)) (some true) (ob (some ((false,[100000000]):Bool × List Nat)) fun(r70,l71)=>ob (I3 2000 false [] r70 l71) fun r76=>some (decide (0≤r76))))=some false by kernel_rfl,aA,jx,aA]
 dsimp only
 rw[Ko,aA]; rfl
set_option maxHeartbeats 0 in
theorem MI:xm (mL 2000 GK [8,16,23,29,34,38,41,43,44] 10 lO 1023) 15 ([],[],false,[],0)=some ([(8,true)],[(0,true),(1,true),(2,true),(3,true),(4,true),(5,true),(6,true),(7,true),(9,true),(10,true),(11,true),(12,true),(13,true),(14,true)],false,[99410176],15):=by kernel_rfl
set_option maxHeartbeats 0 in
theorem LI:xm (mL 2000 GK [8,16,23,29,34,38,41,43,44] 10 lO 1023) 15 ([(8,true)],[(0,true),(1,true),(2,true),(3,true),(4,true),(5,true),(6,true),(7,true),(9,true),(10,true),(11,true),(12,true),(13,true),(14,true)],false,[99410176],15)=some ([(8,true),(16,true),(23,true),(29,true)],[(0,true),(1,true),(2,true),(3,true),(4,true),(5,true),(6,true),(7,true),(9,true),(10,true),(11,true),(12,true),(13,true),(14,true),(15,true),(17,true),(18,true),(19,true),(20,true),(21,true),(22,true),(24,true),(25,true),(26,true),(27,true),(28,true)],false,[99998704],30):=by kernel_rfl
set_option maxHeartbeats 0 in
theorem Lr:xm (mL 2000 GK [8,16,23,29,34,38,41,43,44] 10 lO 1023) 15 ([(8,true),(16,true),(23,true),(29,true)],[(0,true),(1,true),(2,true),(3,true),(4,true),(5,true),(6,true),(7,true),(9,true),(10,true),(11,true),(12,true),(13,true),(14,true),(15,true),(17,true),(18,true),(19,true),(20,true),(21,true),(22,true),(24,true),(25,true),(26,true),(27,true),(28,true)],false,[99998704],30)=some ([(8,true),(16,true),(23,true),(29,true),(34,true),(38,true),(41,true),(43,true),(44,true)],[(0,true),(1,true),(2,true),(3,true),(4,true),(5,true),(6,true),(7,true),(9,true),(10,true),(11,true),(12,true),(13,true),(14,true),(15,true),(17,true),(18,true),(19,true),(20,true),(21,true),(22,true),(24,true),(25,true),(26,true),(27,true),(28,true),(30,true),(31,true),(32,true),(33,true),(35,true),(36,true),(37,true),(39,true),(40,true),(42,true)],false,[99999999],45):=by kernel_rfl
theorem Kc:bL (mL 2000 GK [8,16,23,29,34,38,41,43,44] 10 lO 1023) 2000 (([]:List (Int × Bool)),([]:List (Int × Bool)),false,[],0)=some (false,[99999999]):=by
 have h1:bL (mL 2000 GK [8,16,23,29,34,38,41,43,44] 10 lO 1023) (1985+15) _=_:=ec MI;have h2:bL (mL 2000 GK [8,16,23,29,34,38,41,43,44] 10 lO 1023) (1970+15) _=_:=ec LI;have h3:bL (mL 2000 GK [8,16,23,29,34,38,41,43,44] 10 lO 1023) (1955+15) _=_:=ec Lr;exact h1.trans (h2.trans (h3.trans (by kernel_rfl)))
theorem Mu:I9 2000 10 lO 1023 [8,16,23,29,34,38,41,43,44]=some (99999999,0,0,0,0,0,0,0,0):=by
 unfold I9;rw[show zQ 2000 10 lO 1023 [8,16,23,29,34,38,41,43,44]=some 0 by kernel_rfl,aA,show(!decide ((0:Int)=0))=false from rfl,jx,aA,show bL (Dz 2000 lO 1023) 2000 (0,([]:List (Int)))=some GK by kernel_rfl,aA,aA,show ry 2000 0=some (false,[]) by kernel_rfl,aA]
 dsimp only
 rw[Kc,aA]
 dsimp only
 rw[aA]
 kernel_rfl
theorem HJ:bL (HH 2000) 2000 ((([]:List (Int × Int))++[(0,1),(0,63)]),1)=some qW:=by kernel_rfl
theorem zI:FV 2000 64 qW 18446744073709551615=some 0:=by kernel_rfl
theorem EJ:FV 2000 64 qW (e9 .u64 18446744073709551615 1)=some 0:=by kernel_rfl
theorem H6:Gm 2000 false [64]=some (64,0,0,0,0,0,0,0,0):=by kernel_rfl
theorem Ke:Gm 2000 false [1]=some (1,0,0,0,0,0,0,0,0):=by kernel_rfl
theorem Ll:ym 2000 64 qW 18446744073709551615=some (64,0,0,0,0,0,0,0,0):=by
 unfold ym;rw[zI,aA,show(!decide ((0:Int)=0))=false from rfl,jx,zN,aA]
 dsimp only
 rw[H6,aA]
theorem Lu:ym 2000 64 qW (e9 .u64 18446744073709551615 1)=some (1,0,0,0,0,0,0,0,0):=by
 unfold ym;rw[EJ,aA,show(!decide ((0:Int)=0))=false from rfl,jx,show e9 .u64 18446744073709551615 1=18446744073709551614 from rfl,Di,aA]
 dsimp only
 rw[Ke,aA]
theorem Kh:DZ 2000 64 qW 18446744073709551615 1=some (63,0,0,0,0,0,0,0,64,0,0,0,0,0,0,0,0):=by
 unfold DZ;rw[zI,aA,show(!decide ((0:Int)=0))=false from rfl,jx,zN]
 rw[show ez ([]:List (Int × Bool)) 1 true = [(1,true)] from rfl,BS]
 kernel_rfl
theorem Jk {α β:Type} (x:α) (f:α→Option β):ob (some x) f=f x:=Eq.trans rfl (aA x f)
theorem Kd {β:Type} (a b:Option β):br true a b=a:=Eq.trans rfl (jR a b)
theorem JO {β:Type} (a b:Option β):br false a b=b:=Eq.trans rfl (jx a b)
theorem K0:(!true)=false:=Eq.trans rfl Bool.not_true
theorem LJ:F6 2000=some true:=Eq.trans rfl rfl
theorem E9:F5 2000=some true:=by
 unfold F5;simp only[LJ,Jk,Jn,IF,HJ,FH,Ll,Lu,Kh,Ij,H0,Kd,JO,K0];simp only[show tG 2000 99999999=some (99999999,0,0,0,0,0,0,0) by kernel_rfl,show tG 2000 0=some (0,0,0,0,0,0,0,0) by kernel_rfl,Jk,LP,Lv,Mu]
 kernel_rfl
end Go.Proofs.YtookeaakpiefjaaDoor
end
