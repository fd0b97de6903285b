/- Texts of the abstract machine and of the walks,joined: T30M T30L T30B T30C5 T30S AbsWord T30P T30Q1 T30Q2 T30C6 T30Q3 T30Q4 T30Q5 T30Q6 T30Q7 T30C7 T30N1 T30N2 T30N3 T30N4 T30N5 T30N6 T30N7 T30C1 T30Mp T30C2 T30C3 T30C4 T30C8 T30D1. -/
import Derived.Test.YtookeaakpiefjaaGreatDoorTc6
import Derived.Lib.Mul64
section
namespace Go.Ab.T30
def sm:Nat→(Nat→Int)→Int
 | 0,_=>0
 | n+1,f=>sm n f+f n
theorem gh:∀ {n:Nat} {f g:Nat→Int},(∀ i,i<n→f i=g i)→sm n f=sm n g
 | 0,_,_,_=>rfl
 | n+1,f,g,h=>by
  simp only [sm];rw [gh fun i hi=>h i (by omega),h n (by omega)]
theorem sR:∀ {n:Nat} {f:Nat→Int},(∀ i,i<n→f i=0)→sm n f=0
 | 0,_,_=>rfl
 | n+1,f,h=>by
  simp only [sm];rw [sR fun i hi=>h i (by omega),h n (by omega)]; rfl
theorem tD (a b:Int):∀ (n:Nat) (f g:Nat→Int),sm n (fun i=>a*f i+b*g i)=a*sm n f+b*sm n g
 | 0,_,_=>by simp [sm]
 | n+1,f,g=>by
  simp only [sm];rw [tD a b n f g,Int.mul_add,Int.mul_add]; omega
theorem Jh {n k:Nat} {f:Nat→Int} (hk:k<n) (h:∀ i,i<n→i≠k→f i=0):sm n f=f k:=by
 induction n with
 | zero=>cases hk
 | succ n ih =>
  simp only [sm]
  by_cases e:k=n
  ·subst e;rw [sR fun i hi=>h i (by omega) (by omega),Int.zero_add]
  ·rw [ih (by omega) fun i hi=>h i (by omega),h n (by omega) (fun g=>e g.symm),Int.add_zero]
theorem JE {n k:Nat} {f:Nat→Int} (hk:k+1<n) (h:∀ i,i<n→i≠k→i≠k+1→f i=0):sm n f=f k+f (k+1):=by
 induction n with
 | zero=>cases hk
 | succ n ih =>
  simp only [sm]
  by_cases e:k+1=n
  ·rw [Jh (k:=k) (by omega) fun i hi hne=>h i (by omega) hne (by omega),e]
  ·rw [ih (by omega) fun i hi=>h i (by omega),h n (by omega) (by omega) (fun g=>e g.symm),Int.add_zero]
def sg (i:Nat):Int:=if i%2=0 then 1 else -1
theorem G6 (i:Nat):sg (i+1) = - sg i:=by
 unfold sg;have:i%2=0∨i%2=1:=by omega
 rcases this with h | h
 ·rw [if_pos h,if_neg (show ¬ (i+1)%2=0 by omega)]
 ·rw [if_neg (show ¬ i%2=0 by omega),if_pos (show (i+1)%2=0 by omega)]; rfl
def Fu (i r:Nat):Nat:=if r<i then r else r+1
abbrev Mt:=Nat→Nat→Int
def nu (A:Mt) (i:Nat):Mt:=fun r c=>A (Fu i r) (c+1)
def cj:Nat→Mt→Int
 | 0,_=>1
 | n+1,A=>sm (n+1) fun i=>sg i*A i 0*cj n (nu A i)
theorem yf {i r n:Nat} (hr:r<n):Fu i r<n+1:=by unfold Fu; split <;> omega
theorem JQ {i r:Nat}:Fu i r≠i:=by unfold Fu; split <;> omega
theorem bC:∀ {n:Nat} {A B:Mt},(∀ r c,r<n→c<n→A r c=B r c)→cj n A=cj n B
 | 0,_,_,_=>rfl
 | n+1,A,B,h=>by
  simp only [cj];refine gh fun i hi=>?_;have hm:cj n (nu A i)=cj n (nu B i):=bC fun r c hr hc=>h _ _ (yf hr) (by omega)
  rw [h i 0 hi (by omega),hm]
def upd (A:Mt) (k:Nat) (v:Nat→Int):Mt:=fun r c=>if r=k then v c else A r c
def pos (i k:Nat):Nat:=if k<i then k else k-1
theorem HT {i r k:Nat} (h:i≠k):Fu i r=k↔r=pos i k:=by unfold Fu pos; split <;> split <;> omega
theorem sV {A:Mt} {i k:Nat} {v:Nat→Int} (h:i≠k):nu (upd A k v) i=upd (nu A i) (pos i k) fun c=>v (c+1):=by
 funext r c
 simp only [nu,upd,HT h]
theorem iG {A:Mt} {k:Nat} {v:Nat→Int}:nu (upd A k v) k=nu A k:=by
 funext r c
 simp only [nu,upd,if_neg JQ]
theorem Lc {i k n:Nat} (hk:k<n+1) (h:i≠k) (hi:i<n+1):pos i k<n:=by unfold pos; split <;> omega
theorem iS (a b:Int) (u w:Nat→Int):∀ {n:Nat} {A:Mt} {k:Nat},k<n→cj n (upd A k fun c=>a*u c+b*w c)=a*cj n (upd A k u)+b*cj n (upd A k w):=by
 intro n
 induction n generalizing u w with
 | zero=>intro A k h; cases h
 | succ n ih =>
  intro A k hk;simp only [cj];rw [← tD];refine gh fun i hi=>?_
  by_cases h:i=k
  ·subst h;rw [iG,iG,iG];simp only [upd,if_true];generalize cj n (nu A i)=D;rw [Int.mul_add,Int.add_mul]
   congr 1
   ·rw [Int.mul_left_comm (sg i) a,Int.mul_assoc a]
   ·rw [Int.mul_left_comm (sg i) b,Int.mul_assoc b]
  ·rw [sV h,sV h,sV h,ih (fun c=>u (c+1)) (fun c=>w (c+1)) (Lc hk h hi)];simp only [upd,if_neg h];generalize sg i*A i 0=s;rw [Int.mul_add,Int.mul_left_comm s a,Int.mul_left_comm s b]
theorem mF (A:Mt) (k:Nat):upd A k (A k)=A:=by
 funext r c
 unfold upd
 split
 ·rename_i h; rw [h]
 ·rfl
theorem zp:∀ {n:Nat} {A:Mt} {k:Nat},k+1<n→(∀ c,c<n→A k c=A (k+1) c)→cj n A=0:=by
 intro n
 induction n with
 | zero=>intro A k h; cases h
 | succ n ih =>
  intro A k hk he;simp only [cj];rw [JE (k:=k) hk]
  ·have hm:cj n (nu A k)=cj n (nu A (k+1)):=bC fun r c hr hc=>by
    simp only [nu,Fu]
    by_cases h1:r<k
    ·rw [if_pos h1,if_pos (by omega)]
    ·by_cases h2:r=k
     ·subst h2;rw [if_neg (by omega),if_pos (by omega)]
      exact (he (c+1) (by omega)).symm
     ·rw [if_neg h1,if_neg (by omega)]
   rw [hm,he 0 (by omega),G6,Int.neg_mul,Int.neg_mul]
   omega
  ·intro i hi h1 h2;have:cj n (nu A i)=0:=by
    by_cases h:i<k
    ·exact ih (k:=k-1) (by omega) fun c hc=>by
      simp only [nu,Fu];rw [if_neg (by omega),if_neg (by omega)]
      have:=he (c+1) (by omega)
      rw [show k-1+1=k by omega]
      exact this
    ·exact ih (k:=k) (by omega) fun c hc=>by
      simp only [nu,Fu];rw [if_pos (by omega),if_pos (by omega)]
      exact he (c+1) (by omega)
   rw [this,Int.mul_zero]
def Mo (A:Mt) (j:Nat):Mt:=fun r c=>if r=j then A (j+1) c else if r=j+1 then A j c else A r c
theorem Hg {n j:Nat} {A:Mt} (hj:j+1<n):cj n (Mo A j) = - cj n A:=by
 let D:=fun (u w:Nat→Int)=>cj n (upd (upd A j u) (j+1) w)
 have hl:∀ u u' w,D (fun c=>u c+u' c) w=D u w+D u' w:=fun u u' w=>by
  have e:∀ v,upd (upd A j v) (j+1) w=upd (upd A (j+1) w) j v:=fun v=>by
   funext r c
   simp only [upd]
   by_cases h1:r=j+1
   ·rw [if_pos h1,if_neg (by omega),if_pos h1]
   ·rw [if_neg h1,if_neg h1]
  show cj n (upd (upd A j _) (j+1) w)=cj n (upd (upd A j u) (j+1) w)+cj n (upd (upd A j u') (j+1) w)
  rw [e,e,e];have:=iS 1 1 u u' (n:=n) (A:=upd A (j+1) w) (k:=j) (by omega)
  simp only [Int.one_mul] at this;exact this
 have hr:∀ u w w',D u (fun c=>w c+w' c)=D u w+D u w':=fun u w w'=>by
  have:=iS 1 1 w w' (n:=n) (A:=upd A j u) (k:=j+1) hj;simp only [Int.one_mul] at this;exact this
 have hz:∀ u,D u u=0:=fun u=>zp hj fun c _=>by
  simp only [upd];rw [if_neg (by omega),if_pos trivial,if_pos trivial]
 have h0:=hz (fun c=>A j c+A (j+1) c);rw [hl,hr,hr,hz,hz] at h0;have e1:D (A j) (A (j+1))=cj n A:=by
  show cj n (upd (upd A j (A j)) (j+1) (A (j+1)))=_
  rw [mF,mF]
 have e2:D (A (j+1)) (A j)=cj n (Mo A j):=by
  show cj n (upd (upd A j (A (j+1))) (j+1) (A j))=_
  refine bC fun r c _ _=>?_;simp only [upd,Mo]
  by_cases h1:r=j+1
  ·rw [if_pos h1,if_neg (by omega),if_pos h1]
  ·rw [if_neg h1,if_neg h1]
 rw [e1,e2] at h0;omega
theorem rB {n:Nat}:∀ {d j:Nat} {A:Mt},j+d+1<n→(∀ c,c<n→A j c=A (j+d+1) c)→cj n A=0:=by
 intro d
 induction d with
 | zero=>intro j A hk he; exact zp hk he
 | succ d ih =>
  intro j A hk he;have h1:=Hg (n:=n) (j:=j+d+1) (A:=A) (by omega)
  have h2:=ih (j:=j) (A:=Mo A (j+d+1)) (by omega) fun c hc=>by
   simp only [Mo];rw [if_neg (by omega),if_neg (by omega),if_pos trivial]
   exact he c hc
  omega
theorem qt {n j k:Nat} {A:Mt} (hj:j<n) (hk:k<n) (hne:j≠k) (he:∀ c,c<n→A j c=A k c):cj n A=0:=by
 rcases Nat.lt_or_ge j k with h | h
 ·exact rB (d:=k-j-1) (j:=j) (by omega) fun c hc=>by rw [show j+(k-j-1)+1=k by omega]; exact he c hc
 ·exact rB (d:=j-k-1) (j:=k) (by omega) fun c hc=>by rw [show k+(j-k-1)+1=j by omega]; exact (he c hc).symm
theorem uC {n r k:Nat} {A:Mt} (t:Int) (hr:r<n) (hk:k<n) (hne:r≠k):cj n (upd A r fun c=>A r c+t*A k c)=cj n A:=by
 have h:=iS 1 t (A r) (A k) (n:=n) (A:=A) (k:=r) hr;simp only [Int.one_mul] at h;rw [h,mF,qt (A:=upd A r (A k)) hr hk hne fun c _=>by simp only [upd]; rw [if_pos trivial,if_neg (fun e=>hne e.symm)],Int.mul_zero,Int.add_zero]
theorem rC {n r:Nat} {A:Mt} (t:Int) (v:Nat→Int) (hr:r<n):cj n (upd A r fun c=>t*v c)=t*cj n (upd A r v):=by
 have h:=iS t 0 v v (n:=n) (A:=A) (k:=r) hr;simp only [Int.zero_mul,Int.add_zero] at h;exact h
theorem DS {n r:Nat} {A:Mt} (hr:r<n) (q:Int) (γ:Nat→Int) (v:Nat→Int):∀ k,k≤n→(∀ i,i<k→i≠r)→cj n (upd A r fun c=>q*v c+sm k fun i=>γ i*A i c)=q*cj n (upd A r v):=by
 intro k
 induction k with
 | zero =>
  intro _ _;simp only [sm,Int.add_zero];exact rC q v hr
 | succ k ih =>
  intro hk hne;have e:(upd A r fun c=>q*v c+sm (k+1) fun i=>γ i*A i c)=upd A r fun c=>1*(q*v c+sm k fun i=>γ i*A i c)+γ k*A k c:=by
   funext r' c
   simp only [upd,sm]
   split <;> omega
  rw [e,iS 1 (γ k) _ _ hr,Int.one_mul,ih (by omega) fun i hi=>hne i (by omega),qt (A:=upd A r (A k)) hr (show k<n by omega) (fun e=>hne k (by omega) e.symm) fun c _=>by
   simp only [upd]; rw [if_pos trivial,if_neg (hne k (by omega))],Int.mul_zero,Int.add_zero]
theorem Cp {n u:Nat} {A:Mt} (hu:u<n) (t:Nat→Int):cj n (fun i c=>if i=u then A u c else A i c+t i*A u c)=cj n A:=by
 have key:∀ m,m≤n→cj n (fun i c=>if i=u∨m≤i then A i c else A i c+t i*A u c)=cj n A:=by
  intro m
  induction m with
  | zero =>
   intro _;refine bC fun r c _ _=>?_;rw [if_pos (.inr (Nat.zero_le _))]
  | succ m ih =>
   intro hm;rw [← ih (by omega)]
   by_cases h:m=u
   ·refine bC fun r c _ _=>?_
    by_cases h1:r=u
    ·rw [if_pos (.inl h1),if_pos (.inl h1)]
    ·by_cases h2:m≤r
     ·rw [if_pos (.inr (by omega)),if_pos (.inr h2)]
     ·rw [if_neg (by omega),if_neg (by omega)]
   ·have:=uC (n:=n) (r:=m) (k:=u) (A:=fun i c=>if i=u∨m≤i then A i c else A i c+t i*A u c) (t m) (by omega) hu h
    rw [← this];refine bC fun r c _ _=>?_;simp only [upd]
    by_cases h1:r=m
    ·subst h1;rw [if_neg (show ¬ (r=u∨r+1≤r) by omega),if_pos rfl,if_pos (.inr (Nat.le_refl _)),if_pos (.inl trivial)]
    ·rw [if_neg h1]
     by_cases h2:r=u∨m+1≤r
     ·rw [if_pos h2,if_pos (by omega)]
     ·rw [if_neg h2,if_neg (by omega)]
 have:=key n (Nat.le_refl _);rw [← this];refine bC fun r c hr _=>?_
 by_cases h:r=u
 ·rw [if_pos h,if_pos (.inl h),h]
 ·rw [if_neg h,if_neg (by omega)]
theorem CY:∀ {n:Nat} {A:Mt} {c:Nat},c<n→(∀ r,r<n→A r c=0)→cj n A=0:=by
 intro n
 induction n with
 | zero=>intro A c h; cases h
 | succ n ih =>
  intro A c hc h;simp only [cj];refine sR fun i hi=>?_;cases c with
  | zero=>rw [h i hi,Int.mul_zero,Int.zero_mul]
  | succ c=>rw [ih (c:=c) (by omega) fun r hr=>h _ (yf hr),Int.mul_zero]
theorem CQ {n r:Nat} {A:Mt} (hr:r<n) (h:∀ c,c<n→A r c=0):cj n A=0:=by
 have:=rC (n:=n) (r:=r) (A:=A) 0 (A r) hr;rw [Int.zero_mul] at this;rw [← this];refine bC fun i c _ hc=>?_;simp only [upd,Int.zero_mul]
 split
 ·rename_i e; rw [e,h c hc]
 ·rfl
theorem wC:∀ {n:Nat} {A:Mt},(∀ c,c<n→A n c=0)→cj (n+1) A=cj n A*A n n:=by
 intro n
 induction n with
 | zero=>intro A _; simp [cj,sm,sg]
 | succ n ih =>
  intro A h;have e:cj (n+2) A=sm (n+2) fun i=>sg i*A i 0*cj (n+1) (nu A i):=rfl;have e2:cj (n+1) A=sm (n+1) fun i=>sg i*A i 0*cj n (nu A i):=rfl;rw [e,e2];simp only [sm];rw [h 0 (by omega),Int.mul_zero,Int.zero_mul,Int.add_zero]
  have hs:sm (n+1) (fun i=>sg i*A i 0*cj (n+1) (nu A i))=A (n+1) (n+1)*sm (n+1) (fun i=>sg i*A i 0*cj n (nu A i)):=by
   have:=tD (A (n+1) (n+1)) 0 (n+1) (fun i=>sg i*A i 0*cj n (nu A i)) (fun _=>0);simp only [Int.mul_zero,Int.zero_mul,Int.add_zero] at this;rw [← this];refine gh fun i hi=>?_;have hm:∀ c,nu A i n c=A (n+1) (c+1):=fun c=>by
    simp only [nu,Fu];rw [if_neg (by omega)]
   rw [ih (A:=nu A i) fun c hc=>by rw [hm]; exact h (c+1) (by omega),hm]
   generalize sg i*A i 0=s;generalize cj n (nu A i)=d;generalize A (n+1) (n+1)=z;rw [Int.mul_comm z,Int.mul_assoc]
  simp only [sm] at hs;rw [hs,Int.mul_comm]
theorem uX:∀ {n:Nat} {A:Mt},(∀ r c,r<n→c<n→A r c=if r=c then 1 else 0)→cj n A=1
 | 0,_,_=>rfl
 | n+1,A,h=>by
  rw [wC fun c hc=>by rw [h n c (by omega) (by omega),if_neg (by omega)],uX fun r c hr hc=>h r c (by omega) (by omega),h n n (by omega) (by omega),if_pos rfl]; rfl
end Go.Ab.T30
end

section
namespace Go.Ab.T30
def dl (ρ:Nat→Nat) (e:Nat × Nat) (i:Nat):Int:=(if i=ρ e.1 then 1 else 0)-(if i=ρ e.2 then 1 else 0)
def ia (ρ:Nat→Nat):List (Nat × Nat)→Mt
 | [],_,_=>0
 | e::E,i,j=>dl ρ e i*dl ρ e j+ia ρ E i j
def rq (ρ:Nat→Nat):Mt:=fun i j=>if ρ i=i then 0 else if i=j then 1 else 0
def jx (ρ:Nat→Nat) (E:List (Nat × Nat)):Mt:=fun i j=>rq ρ i j+ia ρ E i j
def mg (ρ:Nat→Nat) (u v:Nat):Nat→Nat:=fun i=>if ρ i=u then v else ρ i
def oJ (s:Nat):(Nat→Nat)→List (Nat × Nat)→Nat
 | ρ,[]=>if (List.range s).all (fun i=>ρ i != i) then 1 else 0
 | ρ,(a,b)::E=>oJ s ρ E+if ρ a=ρ b then 0 else oJ s (if ρ a=s then mg ρ (ρ b) (ρ a) else mg ρ (ρ a) (ρ b)) E
def wv (u v:Nat):Nat→Int:=fun c=>(if c=u then 1 else 0)-(if c=v then 1 else 0)
section
variable {s : Nat} {ρ : Nat → Nat} {E : List (Nat × Nat)} {u v : Nat}
theorem AM (hi:∀ i,ρ (ρ i)=ρ i) (hv:ρ v=v) (huv:u≠v) (i:Nat):mg ρ u v (mg ρ u v i)=mg ρ u v i:=by
 unfold mg
 by_cases h:ρ i=u
 ·rw [if_pos h,hv,if_neg (fun e=>huv e.symm)]
 ·rw [if_neg h,hi,if_neg h]
theorem vW (hr:∃ i,i<s∧ρ i=i):cj s (jx ρ [])=0:=by
 obtain ⟨i,h1,h2⟩:=hr;refine CQ h1 fun c _=>?_;simp only [jx,ia,rq];rw [if_pos h2]; rfl
theorem uS (hr:∀ i,i<s→ρ i≠i):cj s (jx ρ [])=1:=by
 refine uX fun r c h1 _=>?_;simp only [jx,ia,rq];rw [if_neg (hr r h1),Int.add_zero]
theorem LW (i:Nat) (hiu:i≠u) (hiv:ρ v=v) (huv:u≠v) (a:Nat):(if i=mg ρ u v a then (1:Int) else 0)=(if i=ρ a then 1 else 0)+(if i=v then (if u=ρ a then 1 else 0) else 0):=by
 unfold mg
 by_cases h:ρ a=u
 ·rw [if_pos h,h,if_neg hiu,if_pos rfl,Int.zero_add]
 ·rw [if_neg h];have:¬ u=ρ a:=fun e=>h e.symm;rw [if_neg this]
  split <;> split <;> rfl
theorem L9 (huv:u≠v) (a:Nat):(if u=mg ρ u v a then (1:Int) else 0)=0:=by
 unfold mg
 by_cases h:ρ a=u
 ·rw [if_pos h,if_neg huv]
 ·rw [if_neg h,if_neg (fun e=>h e.symm)]
theorem I1 (hiv:ρ v=v) (huv:u≠v) {i:Nat} (hiu:i≠u) (e:Nat × Nat):dl (mg ρ u v) e i=dl ρ e i+(if i=v then dl ρ e u else 0):=by
 unfold dl;rw [LW i hiu hiv huv,LW i hiu hiv huv]
 split <;> omega
theorem Ae (huv:u≠v) (e:Nat × Nat):dl (mg ρ u v) e u=0:=by
 unfold dl;rw [L9 huv,L9 huv]; rfl
theorem CR (huv:u≠v) (i:Nat):∀ E,ia (mg ρ u v) E i u=0
 | []=>rfl
 | e::E=>by
  simp only [ia];rw [Ae huv,Int.mul_zero,CR huv i E]; rfl
theorem Fz (huv:u≠v) (i:Nat):∀ E,ia (mg ρ u v) E u i=0
 | []=>rfl
 | e::E=>by
  simp only [ia];rw [Ae huv,Int.zero_mul,Fz huv i E]; rfl
theorem Dt (hiv:ρ v=v) (huv:u≠v) {i c:Nat} (hiu:i≠u) (hcu:c≠u):∀ E,ia (mg ρ u v) E i c=ia ρ E i c+(if i=v then ia ρ E u c else 0)+(if c=v then ia ρ E i u+(if i=v then ia ρ E u u else 0) else 0)
 | []=>by simp only [ia]; split <;> split <;> rfl
 | e::E=>by
  simp only [ia];rw [Dt hiv huv hiu hcu E,I1 hiv huv hiu,I1 hiv huv hcu];generalize dl ρ e i=p;generalize dl ρ e c=q;generalize dl ρ e u=r
  by_cases h1:i=v <;> by_cases h2:c=v
  ·simp only [if_pos h1,if_pos h2];rw [Int.mul_add,Int.add_mul,Int.add_mul]; omega
  ·simp only [if_pos h1,if_neg h2,Int.add_zero];rw [Int.add_mul]; omega
  ·simp only [if_neg h1,if_pos h2,Int.add_zero];rw [Int.mul_add]; omega
  ·simp only [if_neg h1,if_neg h2,Int.add_zero]
theorem yi (hi:∀ i,ρ (ρ i)=ρ i) (hiv:ρ v=v) (huv:u≠v) {i c:Nat} (hiu:i≠u):rq (mg ρ u v) i c=rq ρ i c:=by
 unfold rq mg
 by_cases h:ρ i=i
 ·rw [if_pos h,h,if_neg hiu,if_pos rfl]
 ·rw [if_neg h]
  by_cases h2:ρ i=u
  ·rw [if_pos h2];have:¬ v=i:=fun e=>h (by rw [← e]; exact hiv)
   rw [if_neg this]
  ·rw [if_neg h2,if_neg h]
theorem Fb (hi:∀ i,ρ (ρ i)=ρ i) (hus:u<s) (hu:ρ u=u) (hv:ρ v=v) (huv:u≠v) (hvs:v≤s) :
  cj s (fun i j=>jx ρ E i j+wv u v i*wv u v j)=cj s (jx ρ E)+cj s (jx (mg ρ u v) E):=by
 have hwu:wv u v u=1:=by simp only [wv]; rw [if_pos trivial,if_neg huv]; rfl
 have hwi:∀ i,i≠u→i≠v→wv u v i=0:=fun i h1 h2=>by simp only [wv]; rw [if_neg h1,if_neg h2]; rfl
 have hwv:wv u v v = -1:=by simp only [wv]; rw [if_neg (fun e=>huv e.symm),if_pos trivial]; rfl
 let R:Mt:=fun i c=>if i=v then jx ρ E v c+1*jx ρ E u c else jx ρ E i c
 have hRu:∀ c,R u c=jx ρ E u c:=fun c=>if_neg huv;have hR:cj s R=cj s (jx ρ E):=by
  by_cases h:v<s
  ·have:=uC (n:=s) (A:=jx ρ E) (r:=v) (k:=u) 1 h hus (fun e=>huv e.symm);rw [← this];refine bC fun r c _ _=>?_
   show (if r=v then _ else _)=upd (jx ρ E) v _ r c
   rfl
  ·refine bC fun r c hr _=>?_;exact if_neg (by omega)
 have hB:cj s (fun i j=>jx ρ E i j+wv u v i*wv u v j)=cj s (upd R u fun c=>1*jx ρ E u c+1*wv u v c):=by
  by_cases h:v<s
  ·have:=uC (n:=s) (A:=fun i j=>jx ρ E i j+wv u v i*wv u v j) (r:=v) (k:=u) 1 h hus (fun e=>huv e.symm);rw [← this];refine bC fun r c _ _=>?_;simp only [upd,R]
   by_cases h1:r=v
   ·rw [if_pos h1,if_neg (by omega),if_pos h1,hwu,hwv]; omega
   ·rw [if_neg h1]
    by_cases h2:r=u
    ·subst h2; rw [if_pos rfl,hwu]; omega
    ·rw [if_neg h2,if_neg h1,hwi r h2 h1,Int.zero_mul,Int.add_zero]
  ·refine bC fun r c hr _=>?_;simp only [upd,R]
   by_cases h2:r=u
   ·subst h2; rw [if_pos rfl,hwu]; omega
   ·rw [if_neg h2,if_neg (by omega),hwi r h2 (by omega),Int.zero_mul,Int.add_zero]
 have hL:cj s (upd R u (jx ρ E u))=cj s (jx ρ E):=by
  rw [← hR];refine bC fun r c _ _=>?_;simp only [upd]
  split
  ·rename_i h; rw [h]; exact (hRu c).symm
  ·rfl
 rw [hB,iS 1 1 _ _ hus,Int.one_mul,Int.one_mul,hL]
 congr 1
 have h1:=Cp (n:=s) (u:=u) (A:=upd R u (wv u v)) hus fun i=>- R i u;rw [← h1];have hC:cj s (fun i c=>if i=u then upd R u (wv u v) u c else upd R u (wv u v) i c + - R i u*upd R u (wv u v) u c)=cj s (upd (jx (mg ρ u v) E) u fun c=>1*(if c=u then 1 else 0)+(-1)*(if c=v then 1 else 0)):=by
  refine bC fun r c hr hc=>?_;simp only [upd]
  by_cases h2:r=u
  ·rw [if_pos h2,if_pos trivial,if_pos h2];simp only [wv]; omega
  ·rw [if_neg h2,if_neg h2,if_pos trivial,if_neg h2]
   by_cases h3:c=u
   ·subst h3;rw [hwu];have:jx (mg ρ c v) E r c=0:=by
     simp only [jx];rw [CR huv,yi hi hv huv h2];unfold rq;rw [if_neg h2]; split <;> rfl
    rw [this]; omega
   ·have e1:wv u v c = - (if c=v then 1 else 0):=by simp only [wv]; rw [if_neg h3]; omega
    rw [e1];simp only [jx];rw [Dt hv huv h2 h3,yi hi hv huv h2];have d1:rq ρ u c=0:=by unfold rq; rw [if_pos hu]
    have d2:rq ρ r u=0:=by unfold rq; rw [if_neg h2]; split <;> rfl
    have d3:rq ρ u u=0:=by unfold rq; rw [if_pos hu]
    have d4:rq ρ v u=0:=by unfold rq; rw [if_pos hv]
    simp only [R,jx]
    by_cases h4:r=v <;> by_cases h5:c=v
    ·simp only [if_pos h4,if_pos h5];rw [d1,d3,d4,h4]; omega
    ·simp only [if_pos h4,if_neg h5];rw [d1,d3,d4,h4]; omega
    ·simp only [if_neg h4,if_pos h5];rw [d2]; omega
    ·simp only [if_neg h4,if_neg h5];omega
 rw [hC,iS 1 (-1) _ _ hus,CY (c:=u) (A:=upd (jx (mg ρ u v) E) u fun c=>if c=v then 1 else 0) hus fun r hr=>?_,Int.one_mul,Int.mul_zero,Int.add_zero]
 ·refine bC fun r c hr _=>?_;simp only [upd]
  split
  ·rename_i h;subst h;have:mg ρ r v r=v:=by unfold mg; rw [if_pos hu]
   have hd:rq (mg ρ r v) r c=if r=c then 1 else 0:=by unfold rq; rw [this,if_neg (fun e=>huv e.symm)]
   simp only [jx];rw [Fz huv,hd,Int.add_zero]
   by_cases h2:c=r
   ·rw [if_pos h2,if_pos h2.symm]
   ·rw [if_neg h2,if_neg (fun e=>h2 e.symm)]
  ·rfl
 ·simp only [upd]
  by_cases h2:r=u
  ·rw [if_pos h2,if_neg huv]
  ·rw [if_neg h2];simp only [jx];rw [CR huv,yi hi hv huv h2];unfold rq;rw [if_neg h2]; split <;> rfl
theorem oF:∀ (E:List (Nat × Nat)) (ρ:Nat→Nat),(∀ i,ρ (ρ i)=ρ i)→ρ s=s→(∀ e ∈ E,ρ e.1≤s∧ρ e.2≤s)→cj s (jx ρ E)=(oJ s ρ E:Int)
 | [],ρ,_,_,_=>by
  unfold oJ
  by_cases h:∃ i,i<s∧ρ i=i
  ·rw [vW h,if_neg]
   ·rfl
   ·rw [List.all_eq_true];intro g;obtain ⟨i,h1,h2⟩:=h;have:=g i (List.mem_range.2 h1);simp [h2] at this
  ·rw [uS fun i h1 h2=>h ⟨i,h1,h2⟩,if_pos]
   ·rfl
   ·rw [List.all_eq_true];intro i hi;simp only [bne_iff_ne,ne_eq];exact fun e=>h ⟨i,List.mem_range.1 hi,e⟩
 | (a,b)::E,ρ,hi,hs,hE=>by
  have hab:=hE (a,b) (by simp)
  have hE':∀ e ∈ E,ρ e.1≤s∧ρ e.2≤s:=fun e he=>hE e (by simp [he])
  have ih:=oF E ρ hi hs hE';unfold oJ
  by_cases h:ρ a=ρ b
  ·rw [if_pos h,Nat.add_zero,← ih];refine bC fun i j _ _=>?_;simp only [jx,ia,dl];rw [h,Int.sub_self,Int.zero_mul,Int.zero_add]
  ·rw [if_neg h];have go:∀ u v,u≤s→v≤s→u≠s→u≠v→ρ u=u→ρ v=v→(∀ i j,dl ρ (a,b) i*dl ρ (a,b) j=wv u v i*wv u v j)→cj s (jx ρ ((a,b)::E))=((oJ s ρ E+oJ s (mg ρ u v) E:Nat):Int):=fun u v h1 h2 h3 h4 h5 h6 h7=>by
    have e1:cj s (jx ρ ((a,b)::E))=cj s (fun i j=>jx ρ E i j+wv u v i*wv u v j):=bC fun i j _ _=>by
     simp only [jx,ia];rw [h7]; omega
    have hus:u<s:=by omega
    have ih2:=oF E (mg ρ u v) (AM hi h6 h4) (by unfold mg; rw [hs,if_neg (fun e=>h3 e.symm)]) fun e he=>by
     have:=hE' e he;unfold mg;refine ⟨?_,?_⟩
     ·split
      ·exact h2
      ·exact this.1
     ·split
      ·exact h2
      ·exact this.2
    rw [e1,Fb hi hus h5 h6 h4 h2,ih,ih2];omega
   by_cases h8:ρ a=s
   ·rw [if_pos h8];refine go (ρ b) (ρ a) hab.2 hab.1 (fun e=>h (by rw [h8,e])) (fun e=>h e.symm) (hi b) (hi a) fun i j=>?_
    simp only [dl,wv];generalize (if i=ρ a then (1:Int) else 0)=p
    generalize (if i=ρ b then (1:Int) else 0)=q
    generalize (if j=ρ a then (1:Int) else 0)=p'
    generalize (if j=ρ b then (1:Int) else 0)=q'
    rw [show p-q = -(q-p) by omega,show p'-q' = -(q'-p') by omega,Int.neg_mul_neg]
   ·rw [if_neg h8];exact go (ρ a) (ρ b) hab.1 hab.2 h8 h (hi a) (hi b) fun i j=>rfl
end
end Go.Ab.T30
end

section
namespace Go.Ab.T30
def jw (A:Mt) (k r c:Nat):Mt:=fun i j=>A (if i<k then i else r) (if j<k then j else c)
theorem Cu (A:Mt) (k:Nat):cj (k+1) (jw A k k k)=cj (k+1) A:=bC fun i j hi hj=>by
 simp only [jw];have h1:(if i<k then i else k)=i:=by split <;> omega
 have h2:(if j<k then j else k)=j:=by split <;> omega
 rw [h1,h2]
def Nh (A:Mt) (s k r:Nat) (m:Int) (Y:Nat→Int):Prop:=∃ (Q:Int) (γ:Nat→Int),Q≠0∧∀ c,c<s→Q*(if c<k then 0 else Y c)=(Q*m)*A r c+sm k fun i=>γ i*A i c
theorem Nh.minor {A:Mt} {s k r c:Nat} {m:Int} {Y:Nat→Int} (h:Nh A s k r m Y) (hk:k≤c) (hc:c<s):m*cj (k+1) (jw A k r c)=cj k A*Y c:=by
 obtain ⟨Q,γ,hQ,h⟩:=h;have h1:=DS (n:=k+1) (r:=k) (A:=jw A k r c) (by omega) (Q*m) γ (jw A k r c k) k (by omega) (fun i hi=>by omega)
 rw [mF] at h1;have hrow:∀ j,j<k+1→(Q*m)*jw A k r c k j+sm k (fun i=>γ i*jw A k r c i j)=Q*(if j<k then 0 else Y c):=fun j hj=>by
  have e:sm k (fun i=>γ i*jw A k r c i j)=sm k fun i=>γ i*A i (if j<k then j else c):=gh fun i hi=>by
   simp only [jw]; rw [if_pos hi]
  rw [e];have:=h (if j<k then j else c) (by split <;> omega)
  simp only [jw];rw [if_neg (show ¬ k<k by omega),← this]
  by_cases hj2:j<k
  ·simp only [if_pos hj2]
  ·simp only [if_neg hj2];rw [if_neg (by omega)]
 rw [wC (n:=k) (fun j hj=>by
  simp only [upd];rw [if_pos trivial,hrow j (by omega),if_pos hj,Int.mul_zero])] at h1
 have h2:cj k (upd (jw A k r c) k fun j=>(Q*m)*jw A k r c k j+sm k fun i=>γ i*jw A k r c i j)=cj k A:=bC fun i j hi hj=>by
  simp only [upd,jw];rw [if_neg (by omega),if_pos hi,if_pos hj]
 have h3:(upd (jw A k r c) k fun j=>(Q*m)*jw A k r c k j+sm k fun i=>γ i*jw A k r c i j) k k=Q*Y c:=by
  simp only [upd];rw [if_pos trivial,hrow k (by omega),if_neg (by omega)]
 rw [h2,h3,Int.mul_assoc] at h1;have:Q*(cj k A*Y c)=Q*(m*cj (k+1) (jw A k r c)):=by rw [← h1,Int.mul_left_comm]
 exact (Int.eq_of_mul_eq_mul_left hQ this).symm
def Bd (M:Mt) (k:Nat) (p:Int):Mt:=fun r c=>if k<r∧k≤c then (M r c*M k k-M r k*M k c)/p else M r c
structure Bar (A:Mt) (s k:Nat) (M:Mt) (p:Int):Prop where
 p0:p≠0
 pe:p=cj k A
 row:∀ r,k≤r→r<s→Nh A s k r p (M r)
theorem Bar.start (A:Mt) (s:Nat):Bar A s 0 A 1:=⟨by decide,rfl,fun r _ _=>⟨1,fun _=>0,by decide,fun c _=>by simp [sm]⟩⟩
theorem Bar.minor {A:Mt} {s k:Nat} {M:Mt} {p:Int} (h:Bar A s k M p) {r c:Nat} (hr:k≤r) (hrs:r<s) (hc:k≤c) (hcs:c<s):M r c=cj (k+1) (jw A k r c):=by
 have h1:=(h.row r hr hrs).minor hc hcs;rw [← h.pe] at h1;exact (Int.eq_of_mul_eq_mul_left h.p0 h1).symm
theorem Bar.Dg {A:Mt} {s k:Nat} {M:Mt} {p:Int} (h:Bar A s k M p) (hk:k<s):M k k=cj (k+1) A:=by
 rw [h.minor (Nat.le_refl k) hk (Nat.le_refl k) hk,Cu]
theorem Bar.Nn {A:Mt} {s k:Nat} {M:Mt} {p:Int} (h:Bar A s k M p) (hk:k<s) {r:Nat} (hr:k<r) (hrs:r<s):Nh A s (k+1) r (p*M k k) fun c=>M r c*M k k-M r k*M k c:=by
 obtain ⟨Q1,γ1,hQ1,h1⟩:=h.row r (by omega) hrs
 obtain ⟨Q2,γ2,hQ2,h2⟩:=h.row k (Nat.le_refl k) hk;refine ⟨Q1*Q2,fun i=>if i<k then (M k k*Q2)*γ1 i+(-(M r k*Q1))*γ2 i else -(M r k*Q1*Q2*p),fun e=>by rcases Int.mul_eq_zero.1 e with e | e; exact hQ1 e; exact hQ2 e,fun c hc=>?_⟩
 have g1:=h1 c hc;have g2:=h2 c hc;have e1:sm (k+1) (fun i=>(if i<k then (M k k*Q2)*γ1 i+(-(M r k*Q1))*γ2 i else -(M r k*Q1*Q2*p))*A i c)=(M k k*Q2)*sm k (fun i=>γ1 i*A i c)+(-(M r k*Q1))*sm k (fun i=>γ2 i*A i c) + -(M r k*Q1*Q2*p)*A k c:=by
  simp only [sm];rw [if_neg (by omega),← tD]
  congr 1
  refine gh fun i hi=>?_;rw [if_pos hi,Int.add_mul,Int.mul_assoc,Int.mul_assoc (-(M r k*Q1))]
 rw [e1];have e2:(if c<k+1 then (0:Int) else M r c*M k k-M r k*M k c)=M k k*(if c<k then 0 else M r c)-M r k*(if c<k then 0 else M k c):=by
  by_cases h3:c<k
  ·rw [if_pos (by omega),if_pos h3,if_pos h3]; simp
  ·rw [if_neg h3,if_neg h3]
   by_cases h4:c=k
   ·subst h4;rw [if_pos (by omega),Int.mul_comm]; omega
   ·rw [if_neg (by omega),Int.mul_comm (M r c)]
 rw [e2];generalize (if c<k then (0:Int) else M r c)=x at g1
 generalize (if c<k then (0:Int) else M k c)=y at g2
 generalize sm k (fun i=>γ1 i*A i c)=S1 at g1;generalize sm k (fun i=>γ2 i*A i c)=S2 at g2;have k1:S1=Q1*x-Q1*p*A r c:=by omega
 have k2:S2=Q2*y-Q2*p*A k c:=by omega
 rw [k1,k2];generalize A r c=a;generalize A k c=b;generalize M k k=q;generalize M r k=t;clear g1 g2 k1 k2 e1 e2 h1 h2
 grind
theorem Bar.exact {A:Mt} {s k:Nat} {M:Mt} {p:Int} (h:Bar A s k M p) (hk:k<s) (hp:M k k≠0) {r c:Nat} (hr:k<r) (hrs:r<s) (hc:k≤c) (hcs:c<s):M r c*M k k-M r k*M k c=p*Bd M k p r c:=by
 simp only [Bd];rw [if_pos ⟨hr,hc⟩];have hd:p∣M r c*M k k-M r k*M k c:=by
  by_cases e:c=k
  ·subst e;rw [Int.mul_comm];exact ⟨0,by omega⟩
  ·have h1:=(h.Nn hk hr hrs).minor (c:=c) (by omega) hcs
   rw [← h.Dg hk] at h1;refine ⟨cj (k+1+1) (jw A (k+1) r c),?_⟩;have:M k k*(M r c*M k k-M r k*M k c)=M k k*(p*cj (k+1+1) (jw A (k+1) r c)):=by
    rw [← h1];generalize cj (k+1+1) (jw A (k+1) r c)=d;rw [Int.mul_comm p,Int.mul_assoc]
   exact Int.eq_of_mul_eq_mul_left hp this
 exact (Int.mul_ediv_cancel' hd).symm
theorem Bar.step {A:Mt} {s k:Nat} {M:Mt} {p:Int} (h:Bar A s k M p) (hk:k<s) (hp:M k k≠0):Bar A s (k+1) (Bd M k p) (M k k):=by
 refine ⟨hp,h.Dg hk,fun r hr hrs=>?_⟩;obtain ⟨Q,γ,hQ,h1⟩:=h.Nn hk (show k<r by omega) hrs
 refine ⟨Q*p,γ,fun e=>by rcases Int.mul_eq_zero.1 e with e | e; exact hQ e; exact h.p0 e,fun c hc=>?_⟩
 have h2:=h1 c hc;rw [Int.mul_assoc Q p (M k k),← h2,Int.mul_assoc Q p]
 by_cases h3:c<k+1
 ·rw [if_pos h3,if_pos h3,Int.mul_zero,Int.mul_zero]
 ·rw [if_neg h3,if_neg h3,← h.exact hk hp (show k<r by omega) hrs (by omega) hc]
def I2:Nat→Nat→Mt→Int→Int
 | 0,_,_,p=>p
 | j+1,k,M,p=>if M k k=0 then 0 else I2 j (k+1) (Bd M k p) (M k k)
theorem zL {A:Mt} {s:Nat} (hA:∀ k,k<s→cj (k+1) A=0→cj s A=0):∀ (j k:Nat) (M:Mt) (p:Int),j+k=s→Bar A s k M p→I2 j k M p=cj s A
 | 0,k,M,p,hj,h=>by
  have:k=s:=by omega
  subst this;exact h.pe
 | j+1,k,M,p,hj,h=>by
  simp only [I2];have hk:k<s:=by omega
  by_cases h0:M k k=0
  ·rw [if_pos h0];have:=h.Dg hk;rw [h0] at this;exact (hA k hk this.symm).symm
  ·rw [if_neg h0];exact zL hA j (k+1) _ _ (by omega) (h.step hk h0)
end Go.Ab.T30
end

section
namespace Go.Ab.T30
def Cx (s:Nat) (ρ:Nat→Nat) (E:List (Nat × Nat)):Prop :=
 ∀ f:Nat→Bool,(∀ i,f i=f (ρ i))→(∀ e ∈ E,f e.1=f e.2)→∀ i,i≤s→f i=f s
structure Rho (s:Nat) (ρ:Nat→Nat):Prop where
 idem:∀ i,ρ (ρ i)=ρ i
 top:ρ s=s
 le:∀ i,i≤s→ρ i≤s
theorem Rho.id (s:Nat):Rho s fun i=>i:=⟨fun _=>rfl,rfl,fun _ h=>h⟩
theorem Rho.step {s:Nat} {ρ:Nat→Nat} (h:Rho s ρ) {a b:Nat} (ha:a≤s) (hb:b≤s) (hab:ρ a≠ρ b):Rho s (if ρ a=s then mg ρ (ρ b) (ρ a) else mg ρ (ρ a) (ρ b)):=by
 have key:∀ u v,ρ u=u→ρ v=v→u≠v→u≠s→v≤s→Rho s (mg ρ u v):=fun u v hu hv huv hus hvs=>by
  refine ⟨AM h.idem hv huv,?_,fun i hi=>?_⟩
  ·unfold T30.mg; rw [h.top,if_neg (fun e=>hus e.symm)]
  ·unfold T30.mg
   split
   ·exact hvs
   ·exact h.le i hi
 by_cases hs:ρ a=s
 ·rw [if_pos hs];exact key _ _ (h.idem b) (h.idem a) (fun e=>hab e.symm) (fun e=>hab (by rw [hs,e])) (h.le a ha)
 ·rw [if_neg hs];exact key _ _ (h.idem a) (h.idem b) hab hs (h.le b hb)
theorem vq {ρ:Nat→Nat} {u v:Nat} (hu:ρ u=u) (hv:ρ v=v) (f:Nat→Bool):(∀ i,f i=f (mg ρ u v i))↔(∀ i,f i=f (ρ i))∧f u=f v:=by
 constructor
 ·intro h;have huv:f u=f v:=by have:=h u; unfold mg at this; rwa [if_pos hu] at this
  refine ⟨fun i=>?_,huv⟩;have:=h i;unfold mg at this
  by_cases hi:ρ i=u
  ·rw [if_pos hi] at this; rw [this,hi,huv]
  ·rwa [if_neg hi] at this
 ·rintro ⟨h,huv⟩ i;unfold mg
  by_cases hi:ρ i=u
  ·rw [if_pos hi,h i,hi,huv]
  ·rw [if_neg hi]; exact h i
theorem oL (s:Nat):∀ (E:List (Nat × Nat)) (ρ:Nat→Nat),Rho s ρ→(∀ e ∈ E,e.1≤s∧e.2≤s)→(0<oJ s ρ E↔Cx s ρ E)
 | [],ρ,h,_=>by
  simp only [oJ];constructor
  ·intro h0;have hall:∀ i,i<s→ρ i≠i:=fun i hi=>by
    by_cases hc:(List.range s).all (fun i=>ρ i != i)=true
    ·simpa using List.all_eq_true.1 hc i (List.mem_range.2 hi)
    ·rw [if_neg hc] at h0; omega
   intro f hf _ i hi;have h1:=h.le i hi;have h2:ρ i=s:=by
    by_cases h3:ρ i<s
    ·exact absurd (h.idem i) (hall _ h3)
    ·omega
   rw [hf i,h2]
  ·intro hu;have:(List.range s).all (fun i=>ρ i != i)=true:=by
    refine List.all_eq_true.2 fun i hi=>?_;have hi:=List.mem_range.1 hi
    by_cases hr:ρ i=i
    ·have h1:=hu (fun j=>ρ j == i) (fun j=>by simp [h.idem]) (fun e he=>nomatch he) i (Nat.le_of_lt hi)
     simp only [hr,h.top,beq_self_eq_true] at h1;have:s=i:=by simpa using h1.symm
     omega
    ·simpa using hr
   rw [if_pos this]; exact Nat.one_pos
 | (a,b)::E,ρ,h,hE=>by
  have ha:a≤s:=(hE (a,b) List.mem_cons_self).1;have hb:b≤s:=(hE (a,b) List.mem_cons_self).2;have hE':∀ e ∈ E,e.1≤s∧e.2≤s:=fun e he=>hE e (List.mem_cons_of_mem _ he);have ih:=oL s E ρ h hE';simp only [oJ]
  by_cases hab:ρ a=ρ b
  ·rw [if_pos hab,Nat.add_zero,ih];refine ⟨fun hu f hf he i hi=>hu f hf (fun e h1=>he e (List.mem_cons_of_mem _ h1)) i hi,fun hu f hf he i hi=>hu f hf (fun e h1=>?_) i hi⟩;rcases List.mem_cons.1 h1 with rfl | h1
   ·show f a=f b
    rw [hf a,hf b,hab]
   ·exact he e h1
  ·rw [if_neg hab];have hR:=h.step ha hb hab;have ih2:=oL s E _ hR hE';have conn:∀ f:Nat→Bool,(∀ i,f i=f ((if ρ a=s then mg ρ (ρ b) (ρ a) else mg ρ (ρ a) (ρ b)) i))↔(∀ i,f i=f (ρ i))∧f a=f b:=fun f=>by
    by_cases hs:ρ a=s
    ·simp only [if_pos hs];rw [vq (h.idem b) (h.idem a)];refine ⟨fun g=>⟨g.1,by rw [g.1 a,g.1 b,g.2]⟩,fun g=>⟨g.1,by rw [← g.1 a,← g.1 b,g.2]⟩⟩
    ·simp only [if_neg hs];rw [vq (h.idem a) (h.idem b)];refine ⟨fun g=>⟨g.1,by rw [g.1 a,g.1 b,g.2]⟩,fun g=>⟨g.1,by rw [← g.1 a,← g.1 b,g.2]⟩⟩
   have e2:Cx s (if ρ a=s then mg ρ (ρ b) (ρ a) else mg ρ (ρ a) (ρ b)) E↔Cx s ρ ((a,b)::E):=by
    refine ⟨fun hu f hf he i hi=>hu f ((conn f).2 ⟨hf,he (a,b) List.mem_cons_self⟩) (fun e h1=>he e (List.mem_cons_of_mem _ h1)) i hi,fun hu f hf he i hi=>?_⟩;obtain ⟨g1,g2⟩:=(conn f).1 hf;refine hu f g1 (fun e h1=>?_) i hi;rcases List.mem_cons.1 h1 with rfl | h1
    ·exact g2
    ·exact he e h1
   rw [← e2,← ih2];constructor
   ·intro h0
    by_cases h1:0<oJ s ρ E
    ·refine ih2.2 (e2.2 fun f hf he i hi=>ih.1 h1 f hf (fun e h2=>he e (List.mem_cons_of_mem _ h2)) i hi)
    ·omega
   ·intro h0; omega
theorem yo (s:Nat):∀ (E:List (Nat × Nat)) (ρ:Nat→Nat),oJ s ρ E≤2 ^ E.length
 | [],ρ=>by simp only [oJ,List.length_nil]; split <;> simp
 | (a,b)::E,ρ=>by
  simp only [oJ,List.length_cons,Nat.pow_succ];have h1:=yo s E ρ
  split
  ·omega
  ·have h2:=yo s E (if ρ a=s then mg ρ (ρ b) (ρ a) else mg ρ (ρ a) (ρ b))
   omega
def uP (k i:Nat):Nat:=if i<k then i else k
def ja (φ:Nat→Nat) (E:List (Nat × Nat)):List (Nat × Nat):=E.map fun e=>(φ e.1,φ e.2)
theorem sQ (φ:Nat→Nat) (i j:Nat):∀ E,ia φ E i j=jx (fun i=>i) (ja φ E) i j
 | []=>by simp [ia,jx,rq,ja]
 | e::E=>by
  have:=sQ φ i j E;simp only [jx,rq,ja,List.map_cons,ia,dl,if_true] at this ⊢;omega
theorem Aw (φ:Nat→Nat) {k i j:Nat} (hi:i<k) (hj:j<k):∀ E,ia φ E i j=ia (fun v=>uP k (φ v)) E i j
 | []=>rfl
 | e::E=>by
  have key:∀ i,i<k→dl φ e i=dl (fun v=>uP k (φ v)) e i:=fun i hi=>by
   have h1:∀ v,(i=uP k (φ v))=(i=φ v):=fun v=>propext (by unfold uP; split <;> omega)
   unfold dl;simp only [h1]
  simp only [ia];rw [Aw φ hi hj E,key i hi,key j hj]
theorem sO (k i:Nat):uP k i≤k:=by unfold uP; split <;> omega
theorem pP (φ:Nat→Nat) (E:List (Nat × Nat)) (k:Nat):cj k (ia φ E)=(oJ k (fun i=>i) (ja (fun v=>uP k (φ v)) E):Int):=by
 rw [← oF (ja (fun v=>uP k (φ v)) E) (fun i=>i) (fun _=>rfl) rfl fun e he=>?_]
 ·refine bC fun r c hr hc=>?_;rw [Aw φ hr hc,sQ]
 ·unfold ja at he;obtain ⟨e',_,rfl⟩:=List.mem_map.1 he;exact ⟨sO _ _,sO _ _⟩
theorem BU (φ:Nat→Nat) (E:List (Nat × Nat)) (k:Nat):(cj k (ia φ E)).natAbs≤2 ^ E.length:=by
 rw [pP];have:=yo k (ja (fun v=>uP k (φ v)) E) fun i=>i;unfold ja at this;rw [List.length_map] at this;exact this
theorem zD (φ:Nat→Nat) (E:List (Nat × Nat)) (s:Nat) (h:∀ e ∈ E,φ e.1≤s∧φ e.2≤s):cj s (ia φ E)=(oJ s (fun i=>i) (ja φ E):Int):=by
 rw [← oF (ja φ E) (fun i=>i) (fun _=>rfl) rfl fun e he=>?_]
 ·exact bC fun r c _ _=>sQ _ _ _ _
 ·unfold ja at he;obtain ⟨e',h1,rfl⟩:=List.mem_map.1 he;exact h e' h1
theorem vh (φ:Nat→Nat) (E:List (Nat × Nat)) (s:Nat) (h:∀ e ∈ E,φ e.1≤s∧φ e.2≤s) {k:Nat} (hk:k<s) (h0:cj (k+1) (ia φ E)=0):cj s (ia φ E)=0:=by
 rw [zD φ E s h];rw [pP] at h0;refine Int.natCast_eq_zero.2 (Nat.eq_zero_of_not_pos fun hp=>?_);have hs:∀ e ∈ ja φ E,e.1≤s∧e.2≤s:=fun e he=>by
  obtain ⟨e',h1,rfl⟩:=List.mem_map.1 he;exact h e' h1
 have hk':∀ e ∈ ja (fun v=>uP (k+1) (φ v)) E,e.1≤k+1∧e.2≤k+1:=fun e he=>by
  obtain ⟨e',_,rfl⟩:=List.mem_map.1 he;exact ⟨sO _ _,sO _ _⟩
 have hu:=(oL s _ _ (Rho.id s) hs).1 hp;have hz:0<oJ (k+1) (fun i=>i) (ja (fun v=>uP (k+1) (φ v)) E):=by
  refine (oL (k+1) _ _ (Rho.id _) hk').2 fun f hf he i hi=>?_;have h1:=fun j hj=>hu (fun j=>f (uP (k+1) j)) (fun _=>rfl) (fun e h2=>?_) j hj
  ·have c1:uP (k+1) s=k+1:=by unfold uP; rw [if_neg (by omega)]
   have h2:=h1 i (by omega)
   rw [c1] at h2
   by_cases hik:i=k+1
   ·rw [hik]
   ·have c2:uP (k+1) i=i:=by unfold uP; rw [if_pos (by omega)]
    rwa [c2] at h2
  ·obtain ⟨e',h3,rfl⟩:=List.mem_map.1 h2;exact he (uP (k+1) (φ e'.1),uP (k+1) (φ e'.2)) (List.mem_map.2 ⟨e',h3,rfl⟩)
 omega
theorem Gg (φ:Nat→Nat) (E:List (Nat × Nat)) (s:Nat) (h:∀ e ∈ E,φ e.1≤s∧φ e.2≤s):I2 s 0 (ia φ E) 1=(oJ s (fun i=>i) (ja φ E):Int):=by
 rw [← zD φ E s h];exact zL (fun k hk h0=>vh φ E s h hk h0) s 0 _ 1 (Nat.add_zero _) (Bar.start _ _)
end Go.Ab.T30
end

section
namespace Go.Ab.T30
def Nb (E:List (Nat × Nat)) (x y:Nat):Prop:=(x,y) ∈ E∨(y,x) ∈ E
inductive Cn (E:List (Nat × Nat)) (i:Nat):Nat→Prop
 | refl:Cn E i i
 | step {j k:Nat}:Cn E i j→Nb E j k→Cn E i k
section
variable {E E' : List (Nat × Nat)} {i j k x y : Nat}
theorem Nb.symm (h:Nb E x y):Nb E y x:=h.elim .inr .inl
theorem Cn.trans (h:Cn E i j) (h':Cn E j k):Cn E i k:=by
 induction h' with
 | refl=>exact h
 | step _ a ih=>exact .step ih a
theorem Cn.one (h:Nb E x y):Cn E x y:=.step .refl h
theorem Cn.symm (h:Cn E i j):Cn E j i:=by
 induction h with
 | refl=>exact .refl
 | step _ a ih=>exact (Cn.one a.symm).trans ih
theorem Nb.mono (hs:∀ e ∈ E,e ∈ E') (h:Nb E x y):Nb E' x y:=h.elim (fun h=>.inl (hs _ h)) fun h=>.inr (hs _ h)
theorem Cn.mono (hs:∀ e ∈ E,e ∈ E') (h:Cn E i j):Cn E' i j:=by
 induction h with
 | refl=>exact .refl
 | step _ a ih=>exact .step ih (a.mono hs)
theorem Cn.closed {Q:Nat→Prop} (h:Cn E i j) (hi:Q i) (hc:∀ x y,Q x→Nb E x y→Q y):Q j:=by
 induction h with
 | refl=>exact hi
 | step _ a ih=>exact hc _ _ ih a
theorem J2:Cn [] i j↔i=j:=⟨fun h=>h.closed (Q:=fun j=>i=j) rfl fun _ _ _ h=>by rcases h with h | h <;> simp at h,fun h=>h ▸ .refl⟩
theorem z8 {a b:Nat}:Cn ((a,b)::E) i j↔Cn E i j∨(Cn E i a∧Cn E b j)∨(Cn E i b∧Cn E a j):=by
 constructor
 ·intro h;refine h.closed (Q:=fun j=>Cn E i j∨(Cn E i a∧Cn E b j)∨(Cn E i b∧Cn E a j)) (.inl .refl) fun x y hx hn=>?_;have old:Nb E x y→Cn E i y∨(Cn E i a∧Cn E b y)∨(Cn E i b∧Cn E a y):=fun hn=>by
   rcases hx with h | ⟨h1,h2⟩ | ⟨h1,h2⟩
   ·exact .inl (.step h hn)
   ·exact .inr (.inl ⟨h1,.step h2 hn⟩)
   ·exact .inr (.inr ⟨h1,.step h2 hn⟩)
  rcases hn with hn | hn
  ·rcases List.mem_cons.1 hn with e | hn
   ·cases e;rcases hx with h | ⟨h1,h2⟩ | ⟨h1,h2⟩
    ·exact .inr (.inl ⟨h,.refl⟩)
    ·exact .inr (.inl ⟨h1,.refl⟩)
    ·exact .inl h1
   ·exact old (.inl hn)
  ·rcases List.mem_cons.1 hn with e | hn
   ·cases e;rcases hx with h | ⟨h1,h2⟩ | ⟨h1,h2⟩
    ·exact .inr (.inr ⟨h,.refl⟩)
    ·exact .inl h1
    ·exact .inr (.inr ⟨h1,.refl⟩)
   ·exact old (.inr hn)
 ·have up:∀ {x y},Cn E x y→Cn ((a,b)::E) x y:=fun h=>h.mono fun e he=>by simp [he]
  have ab:Cn ((a,b)::E) a b:=.one (.inl (by simp))
  rintro (h | ⟨h1,h2⟩ | ⟨h1,h2⟩)
  ·exact up h
  ·exact ((up h1).trans ab).trans (up h2)
  ·exact ((up h1).trans ab.symm).trans (up h2)
theorem Al (h:∀ e,e ∈ E↔e ∈ E'):Cn E i j↔Cn E' i j:=⟨fun g=>g.mono fun e he=>(h e).1 he,fun g=>g.mono fun e he=>(h e).2 he⟩
def bg (r:Nat→Nat) (e:Nat × Nat):Nat→Nat:=fun x=>if r x=max (r e.1) (r e.2) then min (r e.1) (r e.2) else r x
structure Rt (r:Nat→Nat) (E:List (Nat × Nat)):Prop where
 le:∀ x,r x≤x
 rr:∀ x,r (r x)=r x
 cn:∀ x y,r x=r y↔Cn E x y
theorem Rt.id:Rt (fun x=>x) []:=⟨fun _=>Nat.le_refl _,fun _=>rfl,fun _ _=>J2.symm⟩
theorem eQ {r:Nat→Nat} {e:Nat × Nat} (h:r e.1=r e.2):bg r e=r:=by
 funext x
 simp only [bg,h,Nat.max_self,Nat.min_self]
 split
 ·rename_i h; exact h.symm
 ·rfl
theorem Rt.join {r:Nat→Nat} (h:Rt r E) (e:Nat × Nat):Rt (bg r e) (e::E):=by
 obtain ⟨a,b⟩:=e;have hmin:∀ x,bg r (a,b) x≤r x:=fun x=>by
  simp only [bg]; split <;> omega
 have hm1:r (min (r a) (r b))=min (r a) (r b):=by
  rcases Nat.le_total (r a) (r b) with h1 | h1
  ·rw [Nat.min_eq_left h1,h.rr]
  ·rw [Nat.min_eq_right h1,h.rr]
 refine ⟨fun x=>Nat.le_trans (hmin x) (h.le x),fun x=>?_,fun x y=>?_⟩
 ·simp only [bg]
  by_cases h1:r x=max (r a) (r b)
  ·rw [if_pos h1,hm1]
   split <;> omega
  ·rw [if_neg h1,h.rr,if_neg h1]
 ·rw [z8,← h.cn,← h.cn,← h.cn,← h.cn,← h.cn];simp only [bg];have h2:max (r a) (r b)=r a∧min (r a) (r b)=r b∨max (r a) (r b)=r b∧min (r a) (r b)=r a:=by omega
  split <;> split <;> omega
theorem Rt.LP:∀ {T E:List (Nat × Nat)} {r:Nat→Nat},Rt r E→Rt (T.foldl bg r) (T.reverse++E):=by
 intro T
 induction T with
 | nil=>intro E r h; exact h
 | cons e T ih =>
  intro E r h;have:=ih (h.join e);rwa [List.foldl_cons,List.reverse_cons,List.append_assoc]
def rep (T:List (Nat × Nat)):Nat→Nat:=T.foldl bg (fun x=>x)
theorem uc (T:List (Nat × Nat)):Rt (rep T) T.reverse:=by
 have:=Rt.LP (T:=T) Rt.id;rwa [List.append_nil] at this
theorem sH {T:List (Nat × Nat)}:rep T x=rep T y↔Cn T x y:=((uc T).cn x y).trans (Al fun e=>List.mem_reverse)
def iy (V:List Nat) (r:Nat→Nat):Nat:=(V.filter fun v=>r v == v).length
theorem jC {p q:Nat→Bool} {a:Nat}:∀ {V:List Nat},V.Nodup→a ∈ V→p a=true→(∀ v,q v=true↔p v=true∧v≠a)→(V.filter p).length=(V.filter q).length+1:=by
 intro V
 induction V with
 | nil=>intro _ h; cases h
 | cons v V ih =>
  intro hn ha hp hq;rw [List.nodup_cons] at hn
  by_cases e:v=a
  ·subst e;have hqa:q v=false:=by
    cases h:q v with
    | false=>rfl
    | true=>exact absurd rfl ((hq v).1 h).2
   rw [List.filter_cons_of_pos hp,List.filter_cons_of_neg (by simp [hqa]),List.length_cons]
   congr 2
   refine List.filter_congr fun x hx=>?_;have hne:x≠v:=fun e=>hn.1 (e ▸ hx);have:=hq x;cases h1:p x <;> cases h2:q x <;> simp_all
  ·have ha':a ∈ V:=by rcases List.mem_cons.1 ha with h | h; exact absurd h.symm e; exact h
   have:=ih hn.2 ha' hp hq;have hv:q v=p v:=by
    have:=hq v;cases h1:p v <;> cases h2:q v <;> simp_all
   by_cases h1:p v=true
   ·rw [List.filter_cons_of_pos h1,List.filter_cons_of_pos (by rw [hv]; exact h1),List.length_cons,List.length_cons,this]
   ·rw [List.filter_cons_of_neg h1,List.filter_cons_of_neg (by rw [hv]; exact h1),this]
theorem yk {V:List Nat} {r:Nat→Nat} {e:Nat × Nat} (hV:V.Nodup) (hr:∀ x,r (r x)=r x) (h1:r e.1 ∈ V) (h2:r e.2 ∈ V) (hne:r e.1≠r e.2):iy V r=iy V (bg r e)+1:=by
 have hm:max (r e.1) (r e.2) ∈ V:=by
  rcases Nat.le_total (r e.1) (r e.2) with h | h
  ·rwa [Nat.max_eq_right h]
  ·rwa [Nat.max_eq_left h]
 have hrm:r (max (r e.1) (r e.2))=max (r e.1) (r e.2):=by
  rcases Nat.le_total (r e.1) (r e.2) with h | h
  ·rw [Nat.max_eq_right h,hr]
  ·rw [Nat.max_eq_left h,hr]
 refine jC (a:=max (r e.1) (r e.2)) hV hm (by simp only [beq_iff_eq]; exact hrm) fun v=>?_
 simp only [beq_iff_eq,bg];constructor
 ·intro h
  split at h
  ·rename_i h3;exfalso;have h4:r v=v:=by rw [← h] at h3 ⊢; rcases Nat.le_total (r e.1) (r e.2) with h | h <;> simp only [Nat.min_eq_left h,Nat.min_eq_right h,hr]
   omega
  ·rename_i h3; exact ⟨h,fun e=>h3 (by rw [e,hrm])⟩
 ·rintro ⟨h,h3⟩;rw [if_neg (by rw [h]; exact h3)]; exact h
def mb (r:Nat→Nat):List (Nat × Nat)→Nat
 | []=>0
 | e::T=>(if r e.1=r e.2 then 0 else 1)+mb (bg r e) T
def bZ (r:Nat→Nat):List (Nat × Nat)→Bool
 | []=>true
 | e::T=>!(r e.1 == r e.2) && bZ (bg r e) T
theorem qb:∀ (T:List (Nat × Nat)) (r:Nat→Nat),mb r T≤T.length
 | [],_=>Nat.le_refl _
 | e::T,r=>by
  have:=qb T (bg r e);simp only [mb,List.length_cons]
  split <;> omega
theorem mS:∀ (T:List (Nat × Nat)) (r:Nat→Nat),mb r T=T.length↔bZ r T=true
 | [],_=>by simp [mb,bZ]
 | e::T,r=>by
  have h1:=qb T (bg r e);have h2:=mS T (bg r e);simp only [mb,List.length_cons,bZ,Bool.and_eq_true,Bool.not_eq_true',beq_eq_false_iff_ne,ne_eq]
  by_cases h:r e.1=r e.2
  ·rw [if_pos h]; simp [h]; omega
  ·rw [if_neg h,← h2]; simp [h]; omega
theorem nZ {V:List Nat} (hV:V.Nodup):∀ (T:List (Nat × Nat)) {E:List (Nat × Nat)} {r:Nat→Nat},Rt r E→(∀ x ∈ V,r x ∈ V)→(∀ e ∈ T,e.1 ∈ V∧e.2 ∈ V)→iy V r=iy V (T.foldl bg r)+mb r T∧∀ x ∈ V,T.foldl bg r x ∈ V
 | [],_,_,_,hv,_=>⟨rfl,hv⟩
 | e::T,E,r,h,hv,ht=>by
  have he:=ht e (by simp)
  have hv':∀ x ∈ V,bg r e x ∈ V:=fun x hx=>by
   simp only [bg]
   split
   ·rcases Nat.le_total (r e.1) (r e.2) with h | h
    ·rw [Nat.min_eq_left h]; exact hv _ he.1
    ·rw [Nat.min_eq_right h]; exact hv _ he.2
   ·exact hv x hx
  have ih:=nZ hV T (h.join e) hv' fun e he=>ht e (by simp [he])
  refine ⟨?_,ih.2⟩;rw [List.foldl_cons];simp only [mb]
  by_cases hne:r e.1=r e.2
  ·rw [if_pos hne,Nat.zero_add,← ih.1,eQ hne]
  ·rw [if_neg hne,yk hV h.rr (hv _ he.1) (hv _ he.2) hne,ih.1]; omega
theorem DU (V:List Nat):iy V (fun x=>x)=V.length:=by simp [iy]
theorem ie {V:List Nat} (hV:V.Nodup) {T:List (Nat × Nat)} (ht:∀ e ∈ T,e.1 ∈ V∧e.2 ∈ V):V.length=iy V (rep T)+mb (fun x=>x) T∧∀ x ∈ V,rep T x ∈ V:=by
 have:=nZ hV T Rt.id (fun x h=>h) ht;rwa [DU] at this
theorem q9 {p:Nat→Bool}:∀ {V:List Nat},V.Nodup→(∀ i j,i ∈ V→j ∈ V→p i=true→p j=true→i=j)→(V.filter p).length≤1:=by
 intro V
 induction V with
 | nil=>intro _ _; exact Nat.zero_le _
 | cons v V ih =>
  intro hn h;rw [List.nodup_cons] at hn
  by_cases hp:p v=true
  ·rw [List.filter_cons_of_pos hp];have:V.filter p = []:=List.filter_eq_nil_iff.2 fun x hx hpx=>hn.1 ((h v x (by simp) (by simp [hx]) hp hpx) ▸ hx)
   rw [this]; exact Nat.le_refl _
  ·rw [List.filter_cons_of_neg hp];exact ih hn.2 fun i j hi hj=>h i j (by simp [hi]) (by simp [hj])
theorem B2 {V:List Nat} (hV:V.Nodup) {T:List (Nat × Nat)} (ht:∀ e ∈ T,e.1 ∈ V∧e.2 ∈ V):iy V (rep T)≤1↔∀ x ∈ V,∀ y ∈ V,Cn T x y:=by
 have hr:=uc T;have hv:=(ie hV ht).2;constructor
 ·intro h x hx y hy;rw [← sH];have hmem:∀ z ∈ V,rep T z ∈ V.filter fun v=>rep T v == v:=fun z hz=>List.mem_filter.2 ⟨hv z hz,by simp only [beq_iff_eq]; exact hr.rr z⟩
  have one:∀ {l:List Nat} {a b:Nat},l.length≤1→a ∈ l→b ∈ l→a=b:=by
   intro l a b hl ha hb
   match l with
   | []=>cases ha
   | [c]=>rw [List.mem_singleton.1 ha,List.mem_singleton.1 hb]
   | _::_::_=>simp at hl
  exact one h (hmem x hx) (hmem y hy)
 ·intro h;refine q9 hV fun i j hi hj h1 h2=>?_;have:=sH.2 (h i hi j hj);rw [← eq_of_beq h1,← eq_of_beq h2,this]
theorem BH {V:List Nat} (hV:V.Nodup) {T:List (Nat × Nat)} (ht:∀ e ∈ T,e.1 ∈ V∧e.2 ∈ V) {x:Nat} (hx:x ∈ V):0<iy V (rep T) :=
 List.length_pos_of_mem (List.mem_filter.2 ⟨(ie hV ht).2 x hx,by simp only [beq_iff_eq]; exact (uc T).rr x⟩)
theorem Fg {V:List Nat} (hV:V.Nodup) {T:List (Nat × Nat)} (ht:∀ e ∈ T,e.1 ∈ V∧e.2 ∈ V) {x:Nat} (hx:x ∈ V) (hl:T.length+1=V.length):bZ (fun x=>x) T=true↔∀ y ∈ V,Cn T x y:=by
 have h1:=(ie hV ht).1;have h2:=qb T fun x=>x;have h3:=BH hV ht hx;rw [← mS];have:iy V (rep T)≤1↔∀ y ∈ V,Cn T x y:=(B2 hV ht).trans ⟨fun h y hy=>h x hx y hy,fun h y hy z hz=>(h y hy).symm.trans (h z hz)⟩;rw [← this];omega
end
end Go.Ab.T30
end

section
namespace Go.Ab.W
open Go Go.Ab
theorem NF:uM .u64=2 ^ 64:=rfl
theorem pO {a:Nat} (h:a<2 ^ 64):uw .u64 a=a:=Nat.mod_eq_of_lt h
theorem rE {a:Nat} (h:a<2 ^ 64) {i:Nat} (hi:a.testBit i=true):i<64:=by
 rcases Nat.lt_or_ge i 64 with h1 | h1
 ·exact h1
 ·have:a<2 ^ i:=Nat.lt_of_lt_of_le h (Nat.pow_le_pow_right (by decide) h1)
  rw [Nat.testBit_lt_two_pow this] at hi; cases hi
theorem w5 {a b:Nat} (ha:a<2 ^ 64) (hb:b<2 ^ 64):uw .u64 (uw .u64 a &&& uw .u64 b)=a &&& b:=by
 rw [pO ha,pO hb,pO (Nat.lt_of_le_of_lt Nat.and_le_left ha)]
theorem oP {a b:Nat} (ha:a<2 ^ 64) (hb:b<2 ^ 64):uw .u64 (uw .u64 a ||| uw .u64 b)=a ||| b:=by
 rw [pO ha,pO hb,pO (Nat.or_lt_two_pow ha hb)]
theorem ud {a b:Nat} (ha:a<2 ^ 64) (hb:b<2 ^ 64):a ||| b<2 ^ 64:=Nat.or_lt_two_pow ha hb
theorem Di {k:Nat} (h:k<64):fJ .u64 1 k=2 ^ k:=by
 unfold fJ;rw [Nat.min_eq_left (Nat.le_of_lt (show k<IntKind.bits .u64 from h)),Nat.one_mul]
 exact pO (Nat.pow_lt_pow_right (by decide) h)
theorem jo {k:Nat} (h:k<64):2 ^ k<2 ^ 64:=Nat.pow_lt_pow_right (by decide) h
theorem pF (k i:Nat):(2 ^ k).testBit i=decide (i=k):=by
 rw [Nat.testBit_two_pow]
 by_cases h:k=i
 ·simp [h]
 ·simp [h,Ne.symm h]
theorem Ct {k:Int} (h0:0≤k) (h1:k<64):ui .u64 k=k.toNat:=by
 unfold ui;rw [Int.emod_eq_of_lt h0 (by rw [NF]; omega)]
theorem p9 {a k:Nat} (h:k≤64):cx .u64 a k=a >>> k:=by
 unfold cx;rw [Nat.min_eq_left (show k≤IntKind.bits .u64 from h),Nat.shiftRight_eq_div_pow]
theorem sU {a k:Nat} (ha:a<2 ^ 64) (h:k≤64):decide (uw .u64 (uw .u64 (cx .u64 a k) &&& uw .u64 1)=1)=a.testBit k:=by
 have hs:a >>> k<2 ^ 64:=Nat.lt_of_le_of_lt (by rw [Nat.shiftRight_eq_div_pow]; exact Nat.div_le_self _ _) ha
 rw [p9 h,w5 hs (by decide),Nat.testBit]
 rw [Nat.and_comm];have h2:1 &&& a >>> k=(a >>> k)%2:=by rw [Nat.and_comm,Nat.and_one_is_mod]
 rw [h2];rcases Nat.mod_two_eq_zero_or_one (a >>> k) with h3 | h3 <;> rw [h3] <;> rfl
theorem w8 {a b:Nat} (h:∀ i,a.testBit i=true↔b.testBit i=true):a=b:=Nat.eq_of_testBit_eq fun i=>by
 have:=h i;cases ha:a.testBit i <;> cases hb:b.testBit i <;> simp_all
theorem sG {x:Nat} (h0:0<x) (h1:x<2 ^ 64):x.testBit (tz x)=true∧∀ i,i<tz x→x.testBit i=false:=by
 obtain ⟨h2,_,q,hq⟩:=qq h0 h1;have key:∀ i,x.testBit i=(decide (tz x≤i) && (2*q+1).testBit (i-tz x)):=fun i=>by
  conv=>lhs; rw [hq]
  rw [Nat.testBit_two_pow_mul]
 refine ⟨?_,fun i hi=>?_⟩
 ·rw [key,Nat.sub_self];simp [Nat.testBit_zero]
 ·rw [key,decide_eq_false (by omega)]; rfl
def Nn (x:Nat):Nat:=uw .u64 (uw .u64 x &&& uw .u64 (gz .u64 x 1))
section
variable {σ ρ τ : Type}
theorem HV {α:Type} {body:τ→Option (τ ⊕ ρ)} (l:List α) (mk:σ→Int→τ) (step:σ→α→σ) (fin:σ→ρ) (I:Nat→σ→Prop)
  (hs:∀ s i x,l[i]? = some x→I i s→body (mk s (i:Int))=some (.inl (mk (step s x) ((i+1:Nat):Int)))∧I (i+1) (step s x)) (he:∀ s,I l.length s→body (mk s (l.length:Int))=some (.inr (fin s))) :
  ∀ (k i n:Nat) (s:σ),i+k=l.length→I i s→k<n→bH body n (mk s (i:Int))=some (fin ((l.drop i).foldl step s))∧I l.length ((l.drop i).foldl step s):=by
 intro k
 induction k with
 | zero =>
  intro i n s hi hI hn;obtain ⟨n,rfl⟩:∃ n',n=n'+1:=⟨n-1,by omega⟩
  have:i=l.length:=by omega
  subst this;rw [List.drop_length];exact ⟨by simp only [bH,he s hI,List.foldl_nil],hI⟩
 | succ k ih =>
  intro i n s hi hI hn;obtain ⟨n,rfl⟩:∃ n',n=n'+1:=⟨n-1,by omega⟩
  have hlt:i<l.length:=by omega
  obtain ⟨h1,h2⟩:=hs s i l[i] (List.getElem?_eq_getElem hlt) hI;rw [List.drop_eq_getElem_cons hlt,List.foldl_cons];simp only [bH,h1];exact ih (i+1) n _ (by omega) h2 (by omega)
theorem vA {α:Type} {body:τ→Option (τ ⊕ ρ)} (l:List α) (mk:σ→Int→τ) (step:σ→α→σ) (fin:σ→ρ) (I:Nat→σ→Prop)
  (hs:∀ s i x,l[i]? = some x→I i s→body (mk s (i:Int))=some (.inl (mk (step s x) ((i+1:Nat):Int)))∧I (i+1) (step s x)) (he:∀ s,I l.length s→body (mk s (l.length:Int))=some (.inr (fin s)))
  {n:Nat} {s:σ} (hI:I 0 s) (hn:l.length<n):bH body n (mk s 0)=some (fin (l.foldl step s))∧I l.length (l.foldl step s):=by
 have:=HV l mk step fin I hs he l.length 0 n s (by omega) hI hn
 simpa using this
theorem Gz {body:τ→Option (τ ⊕ ρ)} (N:Nat) (mk:σ→Int→τ) (step:σ→Nat→σ) (fin:σ→ρ) (I:Nat→σ→Prop)
  (hs:∀ s i,i<N→I i s→body (mk s (i:Int))=some (.inl (mk (step s i) ((i+1:Nat):Int)))∧I (i+1) (step s i)) (he:∀ s,I N s→body (mk s (N:Int))=some (.inr (fin s)))
  {n:Nat} {s:σ} (hI:I 0 s) (hn:N<n):bH body n (mk s 0)=some (fin ((List.range N).foldl step s))∧I N ((List.range N).foldl step s):=by
 have:=vA (List.range N) mk step fin I (fun s i x hx hI=>by
  have hlt:=(List.getElem?_eq_some_iff.1 hx).1;have hx':x=i:=by rw [List.getElem?_eq_getElem hlt] at hx; simp at hx; exact hx.symm
  subst hx';exact hs s x (by simpa using hlt) hI) (by simpa using he) hI (by simpa using hn)
 simpa using this
end
end Go.Ab.W
end

section
namespace Go.Proofs.YtookeaakpiefjaaGreatDoor
open Go Go.Ab Go.Ab.W
section
variable {α β σ ρ : Type}
theorem cd (a b:Option β):br true a b=a:=rfl
theorem cF (a b:Option β):br false a b=b:=rfl
theorem aR (a:Option β):gd true a=a:=rfl
theorem ah (x:α) (f:α→Option β):ob (some x) f=f x:=rfl
theorem aP {p:Prop} [Decidable p] (h:p) (a b:Option β):br (decide p) a b=a:=by rw [decide_eq_true h]; rfl
theorem aU {p:Prop} [Decidable p] (h:¬ p) (a b:Option β):br (decide p) a b=b:=by rw [decide_eq_false h]; rfl
theorem uf (c:Bool) (a b:Option β):br c a b=if c then a else b:=by cases c <;> rfl
theorem cy {p:Prop} [Decidable p] (h:p) (a:Option β):gd (decide p) a=a:=by rw [decide_eq_true h]; rfl
theorem aF {i n:Nat} (h:i<n):bD (i:Int) n=true:=decide_eq_true ⟨Int.natCast_nonneg i,by simpa using h⟩
theorem aK {x:Int} (h1 : -9223372036854775808≤x) (h2:x<9223372036854775808):IntKind.wrap .i64 x=x:=wrap_i64 x h1 (by omega)
theorem bf {i:Nat} (h:i<4611686018427387904):IntKind.wrap .i64 ((i:Int)+1)=((i+1:Nat):Int):=by rw [aK (by omega) (by omega)]; rfl
theorem aY {body:σ→Option (σ ⊕ ρ)} {n:Nat} {s s':σ} (h:body s=some (.inl s')):bH body (n+1) s=bH body n s':=by simp only [bH,h]
theorem aZ {body:σ→Option (σ ⊕ ρ)} {n:Nat} {s:σ} {r:ρ} (h:body s=some (.inr r)):bH body (n+1) s=some r:=by simp only [bH,h]
end
def kC (N:Int):Int × Int→List (Int × Int)→Bool
 | _,[]=>true
 | p,e::es=>decide (0≤e.1∧e.1<e.2∧e.2<N) && decide (p.1<e.1∨p.1=e.1∧p.2<e.2) && kC N e es
def m9 (N:Int) (es:List (Int × Int)):Bool:=decide (1≤N∧N≤64∧es.length≤200) && kC N (-1,-1) es
def FC (N:Int) (es:List (Int × Int)):Int:=if m9 N es then 0 else 180
theorem FX (n:Nat) (x:Int):Bo n x=some false:=by unfold Bo; simp
theorem A6 (n:Nat) (x y:Int):ES n x y=some (if x<y then -1 else if y<x then 1 else 0):=by
 unfold ES;simp only [FX,ah,cF];rw [uf,uf]
 by_cases h:x<y
 ·simp [h]
 ·by_cases h':y<x <;> simp [h,h']
theorem HO (n:Nat) (a b c d:Int) (hn:2<n):DZ n [a,b] [c,d]=some (if a<c then -1 else if c<a then 1 else if b<d then -1 else if d<b then 1 else 0):=by
 obtain ⟨n,rfl⟩:∃ n',n=n'+3:=⟨n-3,by omega⟩
 have L0:jX (n+3) [a,b] [c,d] 0=if a<c then some (.inr (.inl (-1))) else if c<a then some (.inr (.inl 1)) else some (.inl 1):=by
  unfold jX;simp only [List.length_cons,List.length_nil];rw [aP (by decide),show bD 0 (0+1+1)=true by decide,aR]
  simp only [Int.toNat_zero,List.getElem?_cons_zero,ah];rw [aU (by decide),aR]
  simp only [A6,ah]
  by_cases h:a<c
  ·simp [h,cd]
  ·by_cases h':c<a
   ·simp [h,h',cd]
   ·simp only [h,h',if_false,decide_true,Bool.not_true,cF];rw [aK (by decide) (by decide)]; rfl
 have L1:jX (n+3) [a,b] [c,d] 1=if b<d then some (.inr (.inl (-1))) else if d<b then some (.inr (.inl 1)) else some (.inl 2):=by
  unfold jX;simp only [List.length_cons,List.length_nil];rw [aP (by decide),show bD 1 (0+1+1)=true by decide,aR]
  simp only [show (1:Int).toNat=1 from rfl,List.getElem?_cons_succ,List.getElem?_cons_zero,ah]
  rw [aU (by decide),aR]
  simp only [A6,ah]
  by_cases h:b<d
  ·simp [h,cd]
  ·by_cases h':d<b
   ·simp [h,h',cd]
   ·simp only [h,h',if_false,decide_true,Bool.not_true,cF];rw [aK (by decide) (by decide)]; rfl
 have L2:jX (n+3) [a,b] [c,d] 2=some (.inr (.inr ())):=by
  unfold jX;simp only [List.length_cons,List.length_nil];rw [aU (by decide)]
 unfold DZ
 by_cases h1:a<c
 ·rw [if_pos h1] at L0 ⊢;rw [aZ L0]; rfl
 ·rw [if_neg h1] at L0 ⊢
  by_cases h2:c<a
  ·rw [if_pos h2] at L0 ⊢;rw [aZ L0]; rfl
  ·rw [if_neg h2] at L0 ⊢;rw [aY L0]
   by_cases h3:b<d
   ·rw [if_pos h3] at L1 ⊢;rw [aZ L1]; rfl
   ·rw [if_neg h3] at L1 ⊢
    by_cases h4:d<b
    ·rw [if_pos h4] at L1 ⊢;rw [aZ L1]; rfl
    ·rw [if_neg h4] at L1 ⊢;rw [aY L1,aZ L2,ah];simp only [List.length_cons,List.length_nil]
     rfl
def bB (N:Int) (p e:Int × Int):Bool:=decide (0≤e.1∧e.1<e.2∧e.2<N) && decide (p.1<e.1∨p.1=e.1∧p.2<e.2)
theorem gA (N:Int) (p e:Int × Int) (es:List (Int × Int)):kC N p (e::es)=(bB N p e && kC N e es):=rfl
theorem BS (n:Nat) (l2:List (Int × Int)) (N:Int) (p:Int × Int) (i:Nat) (e:Int × Int) (hn:2<n) (hi:l2[i]? = some e) (hb:i<4611686018427387904) :
  k9 n l2 N (p.1,p.2,(i:Int))=if bB N p e then some (.inl (e.1,e.2,((i+1:Nat):Int))) else some (.inr (.inl ())):=by
 obtain ⟨p1,p2⟩:=p;obtain ⟨a,b⟩:=e;have a1:i<l2.length:=(List.getElem?_eq_some_iff.1 hi).1;have e1:l2[((i:Nat):Int).toNat]? = some (a,b):=by simpa using hi
 have c1:decide (((i:Nat):Int)<(l2.length:Int))=true:=decide_eq_true (by omega)
 simp only [k9,c1,cd,aF a1,aR,e1,ah,HO n _ _ _ _ hn,bf hb]
 by_cases h1:a<0
 ·have:bB N (p1,p2) (a,b)=false:=by simp [bB]; omega
  rw [this,aP h1,ah,cd]; rfl
 ·rw [aU h1]
  by_cases h2:b≤a
  ·have:bB N (p1,p2) (a,b)=false:=by simp [bB]; omega
   rw [this,aP h2,ah,cd]; rfl
  ·rw [aU h2]
   by_cases h3:N≤b
   ·have:bB N (p1,p2) (a,b)=false:=by simp [bB]; omega
    rw [this,aP h3,ah,cd]; rfl
   ·rw [aU h3,ah]
    by_cases h4:p1<a∨p1=a∧p2<b
    ·have:bB N (p1,p2) (a,b)=true:=by simp [bB]; omega
     have h5:¬ (0≤(if p1<a then (-1:Int) else if a<p1 then 1 else if p2<b then -1 else if b<p2 then 1 else 0)):=by
      rcases h4 with h4 | ⟨h4,h5⟩
      ·rw [if_pos h4]; decide
      ·rw [if_neg (by omega),if_neg (by omega),if_pos h5]; decide
     rw [this,aU h5]; rfl
    ·have:bB N (p1,p2) (a,b)=false:=by simp [bB]; omega
     have h5:0≤(if p1<a then (-1:Int) else if a<p1 then 1 else if p2<b then -1 else if b<p2 then 1 else 0):=by
      rw [if_neg (by omega)]
      by_cases h6:a<p1
      ·rw [if_pos h6]; decide
      ·rw [if_neg h6,if_neg (by omega)]; split <;> decide
     rw [this,aP h5]; rfl
theorem Ig (n0:Nat) (l2:List (Int × Int)) (N:Int) (hn:2<n0) (hl:l2.length<4611686018427387904):∀ k i p n,i+k=l2.length→k<n→bH (k9 n0 l2 N) n (p.1,p.2,(i:Int))=some (if kC N p (l2.drop i) then .inr () else .inl ()):=by
 intro k
 induction k with
 | zero =>
  intro i p n hi hk;obtain ⟨n,rfl⟩:∃ n',n=n'+1:=⟨n-1,by omega⟩
  rw [List.drop_of_length_le (by omega)]
  exact aZ (by simp only [k9]; rw [aU (by omega)]; rfl)
 | succ k ih =>
  intro i p n hi hk;obtain ⟨n,rfl⟩:∃ n',n=n'+1:=⟨n-1,by omega⟩
  have a1:i<l2.length:=by omega
  have hs:=BS n0 l2 N p i l2[i] hn (by simp [a1]) (by omega)
  rw [List.drop_eq_getElem_cons a1,gA]
  by_cases h:bB N p l2[i]=true
  ·rw [if_pos h] at hs;rw [aY hs,ih (i+1) l2[i] n (by omega) (by omega),h,Bool.true_and]
  ·rw [if_neg h] at hs;rw [aZ hs];simp only [Bool.not_eq_true] at h;rw [h]; rfl
theorem head_eq (N:Int) (len:Nat):(br (decide (N<1)) (some true) (br (decide (64<N)) (some true) (some (decide (200<(len:Int))))))=some (!decide (1≤N∧N≤64∧len≤200)):=by
 rw [uf,uf]
 by_cases h1:N<1
 ·have:¬ (1≤N∧N≤64∧len≤200):=by omega
  simp [h1,this]
 ·by_cases h2:64<N
  ·have:¬ (1≤N∧N≤64∧len≤200):=by omega
   simp [h1,h2,this]
  ·by_cases h3:200<(len:Int)
   ·have:¬ (1≤N∧N≤64∧len≤200):=by omega
    simp only [h1,h2,h3,this,decide_true,decide_false,Bool.false_eq_true,if_false,Bool.not_false]
   ·have:(1≤N∧N≤64∧len≤200):=by omega
    simp only [h1,h2,h3,this,decide_true,decide_false,Bool.false_eq_true,if_false,Bool.not_true,and_self]
theorem Im (n:Nat) (N:Int) (es:List (Int × Int)) (hn:2<n) (hl:es.length<4611686018427387904) (hk:es.length<n):Ed n N es=some (FC N es):=by
 unfold Ed;rw [head_eq,ah];unfold FC m9
 by_cases h:1≤N∧N≤64∧es.length≤200
 ·rw [decide_eq_true h,Bool.not_true,cF,Bool.true_and];have:=Ig n es N hn hl es.length 0 (-1,-1) n (by omega) hk
  rw [List.drop_zero] at this;rw [show bH (k9 n es N) n (-1,-1,0)=_ from this,ah]
  by_cases h2:kC N (-1,-1) es=true
  ·rw [if_pos h2,if_pos h2]
  ·rw [if_neg h2,if_neg h2]
 ·rw [decide_eq_false h,Bool.not_false,cd,Bool.false_and]; rfl
def Eb (l:List (Int × Int)) (i:Nat) (p:Int × Int):Prop:=(i=0∧p=(-1,-1))∨(0<i∧l[i-1]? = some p)
theorem CD (n:Nat) (l2:List (Int × Int)) (N:Int) (p:Int × Int) (i:Nat) (e:Int × Int) (hp:Eb l2 i p) (hi:l2[i]? = some e) (hb:i<4611686018427387904) :
  p8 n l2 N (i:Int)=if bB N p e then some (.inl ((i+1:Nat):Int)) else some (.inr (.inl ())):=by
 obtain ⟨p1,p2⟩:=p;obtain ⟨a,b⟩:=e;have a1:i<l2.length:=(List.getElem?_eq_some_iff.1 hi).1;have e1:l2[((i:Nat):Int).toNat]? = some (a,b):=by simpa using hi
 have c1:decide (((i:Nat):Int)<(l2.length:Int))=true:=decide_eq_true (by omega)
 simp only [p8,c1,cd,aF a1,aR,e1,ah,bf hb]
 by_cases h1:a<0
 ·have:bB N (p1,p2) (a,b)=false:=by simp [bB]; omega
  rw [this,aP h1,ah,cd]; rfl
 ·rw [aU h1]
  by_cases h2:b≤a
  ·have:bB N (p1,p2) (a,b)=false:=by simp [bB]; omega
   rw [this,aP h2,ah,cd]; rfl
  ·rw [aU h2,ah]
   by_cases h3:N≤b
   ·have:bB N (p1,p2) (a,b)=false:=by simp [bB]; omega
    rw [this,aP h3]; rfl
   ·rw [aU h3];rcases hp with ⟨rfl,h4⟩ | ⟨h0,h4⟩
    ·cases h4;have:bB N (-1,-1) (a,b)=true:=by simp [bB]; omega
     rw [this,aU (by omega),ah,cF]; rfl
    ·have w1:IntKind.wrap .i64 ((i:Int)-1)=((i-1:Nat):Int):=by rw [aK (by omega) (by omega)]; omega
     have e2:l2[((i-1:Nat):Int).toNat]? = some (p1,p2):=by simpa using h4
     rw [aP (by omega),w1,aF (by omega:i-1<l2.length),aR,e2,ah]
     simp only [aR]
     by_cases h5:a<p1
     ·have:bB N (p1,p2) (a,b)=false:=by simp [bB]; omega
      rw [this,aP h5,ah,cd]; rfl
     ·rw [aU h5]
      by_cases h6:p1=a
      ·rw [aP h6,ah]
       by_cases h7:b≤p2
       ·have:bB N (p1,p2) (a,b)=false:=by simp [bB]; omega
        rw [this,aP h7]; rfl
       ·have:bB N (p1,p2) (a,b)=true:=by simp [bB]; omega
        rw [this,aU h7]; rfl
      ·have:bB N (p1,p2) (a,b)=true:=by simp [bB]; omega
       rw [this,aU h6,ah,cF]; rfl
theorem KA (n0:Nat) (l2:List (Int × Int)) (N:Int) (hl:l2.length<4611686018427387904):∀ k i p n,Eb l2 i p→i+k=l2.length→k<n→bH (p8 n0 l2 N) n (i:Int)=some (if kC N p (l2.drop i) then .inr () else .inl ()):=by
 intro k
 induction k with
 | zero =>
  intro i p n hp hi hk;obtain ⟨n,rfl⟩:∃ n',n=n'+1:=⟨n-1,by omega⟩
  rw [List.drop_of_length_le (by omega)]
  exact aZ (by simp only [p8]; rw [aU (by omega)]; rfl)
 | succ k ih =>
  intro i p n hp hi hk;obtain ⟨n,rfl⟩:∃ n',n=n'+1:=⟨n-1,by omega⟩
  have a1:i<l2.length:=by omega
  have hs:=CD n0 l2 N p i l2[i] hp (by simp [a1]) (by omega)
  rw [List.drop_eq_getElem_cons a1,gA]
  by_cases h:bB N p l2[i]=true
  ·rw [if_pos h] at hs;rw [aY hs,ih (i+1) l2[i] n (.inr ⟨by omega,by simp [a1]⟩) (by omega) (by omega),h,Bool.true_and]
  ·rw [if_neg h] at hs;rw [aZ hs];simp only [Bool.not_eq_true] at h;rw [h]; rfl
theorem xY (n:Nat) (N:Int) (es:List (Int × Int)) (hl:es.length<4611686018427387904) (hk:es.length<n):II n N es=some (FC N es):=by
 unfold II;rw [head_eq,ah];unfold FC m9
 by_cases h:1≤N∧N≤64∧es.length≤200
 ·rw [decide_eq_true h,Bool.not_true,cF,Bool.true_and];have:=KA n es N hl es.length 0 (-1,-1) n (.inl ⟨rfl,rfl⟩) (by omega) hk
  rw [List.drop_zero] at this;rw [show bH (p8 n es N) n 0=_ from this,ah]
  by_cases h2:kC N (-1,-1) es=true
  ·rw [if_pos h2,if_pos h2]
  ·rw [if_neg h2,if_neg h2]
 ·rw [decide_eq_false h,Bool.not_false,cd,Bool.false_and]; rfl
theorem uv {σ ρ:Type} {body:σ→Option (σ ⊕ ρ)} {R:ρ→Prop} (I:Nat→σ→Prop) (h:∀ k s,I k s→(∃ s',body s=some (.inl s')∧∃ k',k'<k∧I k' s')∨∃ r,body s=some (.inr r)∧R r):∀ k s n,I k s→k<n→∃ r,bH body n s=some r∧R r:=by
 intro k
 induction k using Nat.strongRecOn with
 | _ k ih =>
  intro s n hI hk;obtain ⟨n,rfl⟩:∃ n',n=n'+1:=⟨n-1,by omega⟩
  rcases h k s hI with ⟨s',h1,k',h2,h3⟩ | ⟨r,h1,h2⟩
  ·obtain ⟨r,h4,h5⟩:=ih k' h2 s' n h3 (by omega)
   exact ⟨r,by rw [aY h1]; exact h4,h5⟩
  ·exact ⟨r,aZ h1,h2⟩
theorem fK {c:Bool} {a b:Option Bool} (ha:c=true→∃ x,a=some x) (hb:c=false→∃ x,b=some x):∃ x,br c a b=some x:=by
 cases c with
 | true=>exact ha rfl
 | false=>exact hb rfl
theorem fu (x:Bool):∃ y,some x=some y:=⟨x,rfl⟩
theorem fp {n:Nat} (h:n≤1073741824):iB n=true:=Nat.ble_eq_true_of_le h
theorem Co (n0:Nat) (l4:List (Nat × Nat)) (N a b:Int) (hN:N≠0) (v:Bool) (n:Nat) (hn:3<n):∃ r,bH (xh n0 l4 N a b) n (v,0)=some r:=by
 obtain ⟨r,h,_⟩:=uv (body:=xh n0 l4 N a b) (R:=fun _=>True) (fun k s=>0≤s.2∧s.2+k=3) (fun k s hI=>by
  obtain ⟨v,i⟩:=s;obtain ⟨h1,h2⟩:=hI;simp only at h1 h2;simp only [xh]
  by_cases c1:i<(l4.length:Int)
  ·rw [aP c1,ah]
   by_cases c2:i<3
   ·rw [decide_eq_true c2,cd];have hb:bD i l4.length=true:=decide_eq_true ⟨h1,by omega⟩
    have hlt:i.toNat<l4.length:=by omega
    have he:l4[i.toNat]? = some l4[i.toNat]:=by simp [hlt]
    rw [hb,aR,he,ah];generalize l4[i.toNat]=e;obtain ⟨x,y⟩:=e;simp only [aR];rw [cy hN,cy hN];have:∃ z,br v (some true) (br (decide (Int.tmod (IntKind.wrap .i64 ((x:Nat):Int)) N=a)) (br (decide (Int.tmod (IntKind.wrap .i64 ((y:Nat):Int)) N=b)) (some true) (br (decide (Int.tmod (IntKind.wrap .i64 ((x:Nat):Int)) N=b)) (some (decide (Int.tmod (IntKind.wrap .i64 ((y:Nat):Int)) N=a))) (some false))) (br (decide (Int.tmod (IntKind.wrap .i64 ((x:Nat):Int)) N=b)) (some (decide (Int.tmod (IntKind.wrap .i64 ((y:Nat):Int)) N=a))) (some false)))=some z :=
     fK (fun _=>fu _) fun _=>fK (fun _=>fK (fun _=>fu _) fun _=>fK (fun _=>fu _) fun _=>fu _) fun _=>fK (fun _=>fu _) fun _=>fu _
    obtain ⟨z,hz⟩:=this;refine .inl ⟨(z,i+1),?_,k-1,by omega,by simp only; omega,by simp only; omega⟩
    rw [hz,ah,aK (by omega) (by omega)]
   ·rw [decide_eq_false c2,cF]; exact .inr ⟨v,rfl,trivial⟩
  ·rw [aU c1,ah,cF]; exact .inr ⟨v,rfl,trivial⟩) 3 (v,0) n ⟨by simp,by simp⟩ hn
 exact ⟨r,h⟩
def NK (es:List (Int × Int)) (i j:Nat):Prop:=((i:Int),(j:Int)) ∈ es∨((j:Int),(i:Int)) ∈ es
theorem Ar {N:Int}:∀ {es:List (Int × Int)} {p:Int × Int},kC N p es=true→∀ e ∈ es,0≤e.1∧e.1<e.2∧e.2<N
 | [],_,_,e,he=>by cases he
 | x::es,p,h,e,he=>by
  rw [gA,Bool.and_eq_true] at h;rcases List.mem_cons.1 he with rfl | he
  ·simp only [bB,Bool.and_eq_true,decide_eq_true_eq] at h;exact h.1.1
  ·exact Ar h.2 e he
structure Okay (N:Nat) (es:List (Int × Int)):Prop where
 pos:1≤N
 le:N≤64
 len:es.length≤200
 mem:∀ e ∈ es,∃ a b:Nat,e=((a:Int),(b:Int))∧a<b∧b<N
theorem kh {N:Int} {es:List (Int × Int)} (h:m9 N es=true):∃ M:Nat,N=(M:Int)∧Okay M es:=by
 simp only [m9,Bool.and_eq_true,decide_eq_true_eq] at h;obtain ⟨⟨h1,h2,h3⟩,h4⟩:=h;obtain ⟨M,rfl⟩:=Int.eq_ofNat_of_zero_le (show 0≤N by omega)
 refine ⟨M,rfl,by omega,by omega,h3,fun e he=>?_⟩
 obtain ⟨g1,g2,g3⟩:=Ar h4 e he;obtain ⟨a,b⟩:=e;obtain ⟨a,rfl⟩:=Int.eq_ofNat_of_zero_le (show 0≤a from g1)
 obtain ⟨b,rfl⟩:=Int.eq_ofNat_of_zero_le (show 0≤b by simp only at g1 g2; omega)
 exact ⟨a,b,rfl,by simp only at g2; omega,by simp only at g3; omega⟩
theorem Okay.NK {N:Nat} {es:List (Int × Int)} (h:Okay N es) {i j:Nat} (ha:NK es i j):i<N∧j<N∧i≠j:=by
 rcases ha with ha | ha
 ·obtain ⟨a,b,e,h1,h2⟩:=h.mem _ ha;simp only [Prod.mk.injEq,Int.natCast_inj] at e;omega
 ·obtain ⟨a,b,e,h1,h2⟩:=h.mem _ ha;simp only [Prod.mk.injEq,Int.natCast_inj] at e;omega
def bl (x:Nat):Nat:=if x=0 then 0 else Nat.log2 x+1
theorem mA {x k:Nat}:k<bl x↔2 ^ k≤x:=by
 unfold bl
 by_cases h:x=0
 ·subst h;rw [if_pos rfl];have:=Nat.two_pow_pos k;omega
 ·rw [if_neg h,Nat.lt_succ_iff,Nat.le_log2 h]
theorem Ce {x m:Nat} (h:∀ k,k<m↔2 ^ k≤x):m=bl x:=by
 rcases Nat.lt_trichotomy m (bl x) with h1 | h1 | h1
 ·have:=(h m).2 (mA.1 h1); omega
 ·exact h1
 ·have:=mA.2 ((h (bl x)).1 h1); omega
theorem EF {x s:Nat} (h:2 ^ s≤x):bl (x >>> s)+s=bl x:=by
 refine Ce fun k=>?_;rw [Nat.shiftRight_eq_div_pow]
 by_cases hk:k<s
 ·have:2 ^ k≤2 ^ s:=Nat.pow_le_pow_right (by decide) (by omega)
  constructor
  ·intro _; omega
  ·intro _; omega
 ·obtain ⟨d,rfl⟩:∃ d,k=d+s:=⟨k-s,by omega⟩
  have h1:=mA (x:=x/2 ^ s) (k:=d);have h2:2 ^ (d+s)≤x↔2 ^ d≤x/2 ^ s:=by rw [Nat.pow_add,Nat.le_div_iff_mul_le (Nat.two_pow_pos s)]
  rw [h2,← h1]; omega
theorem JK:∀ y:Fin 256,eY[y.val]? = some (bl y.val):=by decide +kernel
theorem IB {x s:Nat} (h:x<2 ^ s):bl x≤s:=by
 rcases Nat.lt_or_ge s (bl x) with h1 | h1
 ·have:=mA.1 h1; omega
 ·exact h1
theorem qy (s y m:Nat) (hs:s≤32) (hy:y<2 ^ (2*s)) (hm:m≤64):∃ y' m':Nat,br (decide (2 ^ s≤y)) (some (cx .u64 y s,IntKind.wrap .i64 ((m:Int)+(s:Int)))) (some (y,(m:Int)))=some (y',(m':Int))∧y'<2 ^ s∧bl y'+m'=bl y+m∧m'≤m+s:=by
 by_cases h:2 ^ s≤y
 ·refine ⟨y >>> s,m+s,?_,?_,?_,Nat.le_refl _⟩
  ·rw [aP h,p9 (by omega),aK (by omega) (by omega)]; rfl
  ·rw [Nat.shiftRight_eq_div_pow,Nat.div_lt_iff_lt_mul (Nat.two_pow_pos s),← Nat.pow_add];rw [Nat.two_mul] at hy; exact hy
  ·have:=EF h; omega
 ·exact ⟨y,m,aU h _ _,by omega,rfl,by omega⟩
theorem zx (n x:Nat) (hx:x<2 ^ 64):A9 n x=some ((bl x:Nat):Int):=by
 unfold A9;obtain ⟨y1,m1,e1,h1,b1,g1⟩:=qy 32 x 0 (by omega) hx (by omega)
 have e1':br (decide (4294967296≤x)) (some (cx .u64 x 32,(32:Int))) (some (x,0))=some (y1,(m1:Int)):=e1;rw [e1',ah];obtain ⟨y2,m2,e2,h2,b2,g2⟩:=qy 16 y1 m1 (by omega) h1 (by omega)
 have e2':br (decide (65536≤y1)) (some (cx .u64 y1 16,IntKind.wrap .i64 ((m1:Int)+16))) (some (y1,(m1:Int)))=some (y2,(m2:Int)):=e2;simp only [e2',ah];obtain ⟨y3,m3,e3,h3,b3,g3⟩:=qy 8 y2 m2 (by omega) h2 (by omega)
 have e3':br (decide (256≤y2)) (some (cx .u64 y2 8,IntKind.wrap .i64 ((m2:Int)+8))) (some (y2,(m2:Int)))=some (y3,(m3:Int)):=e3;simp only [e3',ah];have h3:y3<256:=h3;have e:uw .u8 y3=y3:=Nat.mod_eq_of_lt h3;have h8:bl y3≤8:=IB h3;have ht:eY[y3]? = some (bl y3):=JK ⟨y3,h3⟩;have w1:IntKind.wrap .i64 ((bl y3:Nat):Int)=((bl y3:Nat):Int):=aK (by omega) (by omega)
 rw [e,aF h3,aR,Int.toNat_natCast,ht,ah,w1,aK (by omega) (by omega)]
 simp only [Option.some.injEq]; omega
def NJ (N:Int) (es:List (Int × Int)) (x:Nat):Int:=if m9 N es then (if 2 ^ N.toNat≤x then 2 else 0) else 180
theorem Ij (n:Nat) (N:Int) (es:List (Int × Int)) (x:Nat) (hx:x<2 ^ 64) (hl:es.length<4611686018427387904) (hk:es.length<n):ED n N es x=some (NJ N es x):=by
 unfold ED NJ;rw [xY n N es hl hk,ah];unfold FC
 by_cases h:m9 N es=true
 ·obtain ⟨M,rfl,hM⟩:=kh h;rw [if_pos h,if_pos h];simp only [decide_true,Bool.not_true,cF,Int.toNat_natCast]
  by_cases h64:M<64
  ·have hu:ui .u64 (M:Int)=M:=(Ct (by omega) (by omega)).trans (Int.toNat_natCast M)
   rw [aP (by omega),ah,hu,p9 (by omega),Nat.shiftRight_eq_div_pow]
   by_cases h2:2 ^ M≤x
   ·have:0<x/2 ^ M:=Nat.div_pos h2 (Nat.two_pow_pos _);rw [if_pos h2,decide_eq_false (by omega)]; rfl
   ·have:x/2 ^ M=0:=Nat.div_eq_of_lt (by omega)
    rw [if_neg h2,decide_eq_true this]; rfl
  ·have hM64:M=64:=by have:=hM.le; omega
   subst hM64;rw [aU (by omega),ah,if_neg (by omega)]; rfl
 ·rw [if_neg h,if_neg h]; rfl
theorem lD (n x i:Nat) (hx:x<2 ^ 64) (hi:i<64):CU n x ((i:Nat):Int)=some (x.testBit i):=by
 unfold CU;rw [Ct (by omega) (by omega),Int.toNat_natCast,sU hx (by omega)]
theorem oW (n i:Nat) (hi:i<64):w7 n ((i:Nat):Int)=some (2 ^ i):=by
 unfold w7;rw [Ct (by omega) (by omega),Int.toNat_natCast,Di hi]
inductive Rch (es:List (Int × Int)) (S:Nat) (i:Nat):Nat→Prop
 | refl:Rch es S i i
 | step {j k:Nat} (h:Rch es S i j) (ha:NK es j k) (hk:S.testBit k=true):Rch es S i k
theorem Rch.mem {es:List (Int × Int)} {S i j:Nat} (h:Rch es S i j) (hi:S.testBit i=true):S.testBit j=true:=by
 cases h with
 | refl=>exact hi
 | step _ _ hk=>exact hk
theorem Rch.trans {es:List (Int × Int)} {S i j k:Nat} (h:Rch es S i j) (h':Rch es S j k):Rch es S i k:=by
 induction h' with
 | refl=>exact h
 | step _ ha hk ih=>exact .step ih ha hk
def NM (es:List (Int × Int)) (S i w:Nat):Prop:=w<2 ^ 64∧∀ j,w.testBit j=true↔Rch es S i j
inductive Cs (es:List (Int × Int)) (S:Nat):Nat→List Nat→Prop
 | nil:Cs es S 0 []
 | cons {r w:Nat} {L:List Nat} (h0:0<r) (hr:r<2 ^ 64) (hw:NM es S (tz r) w) (t:Cs es S (D8 .u64 r w) L):Cs es S r (w::L)
def eF (x t:Nat):List Nat:=(List.range t).filter fun i=>x.testBit i
def rk (x v:Nat):Nat:=(eF x v).length
theorem uB (x t:Nat):(eF x t).length≤t:=Nat.le_trans (List.length_filter_le _ _) (by simp)
theorem Fx (x t:Nat):eF x (t+1)=eF x t++(if x.testBit t then [t] else []):=by
 unfold eF;rw [List.range_succ,List.filter_append]
 by_cases h:x.testBit t <;> simp [h]
theorem dx {x t v:Nat}:v ∈ eF x t↔v<t∧x.testBit v=true:=by simp [eF]
theorem DM {σ ρ τ:Type} {body:τ→Option (τ ⊕ ρ)} (N:Nat) (mk:σ→Int→τ) (fin:σ→ρ) (I:Nat→σ→Prop)
  (hs:∀ s i,i<N→I i s→∃ s',body (mk s (i:Int))=some (.inl (mk s' ((i+1:Nat):Int)))∧I (i+1) s') (he:∀ s,I N s→body (mk s (N:Int))=some (.inr (fin s))) :
  ∀ (k i n:Nat) (s:σ),i+k=N→I i s→k<n→∃ s',bH body n (mk s (i:Int))=some (fin s')∧I N s':=by
 intro k
 induction k with
 | zero =>
  intro i n s hi hI hn;obtain ⟨n,rfl⟩:∃ n',n=n'+1:=⟨n-1,by omega⟩
  have:i=N:=by omega
  subst this;exact ⟨s,by simp only [bH,he s hI],hI⟩
 | succ k ih =>
  intro i n s hi hI hn;obtain ⟨n,rfl⟩:∃ n',n=n'+1:=⟨n-1,by omega⟩
  obtain ⟨s',h1,h2⟩:=hs s i (by omega) hI
  simp only [bH,h1];exact ih (i+1) n s' (by omega) h2 (by omega)
theorem jK {σ ρ τ:Type} {body:τ→Option (τ ⊕ ρ)} (N:Nat) (mk:σ→Int→τ) (fin:σ→ρ) (I:Nat→σ→Prop)
  (hs:∀ s i,i<N→I i s→∃ s',body (mk s (i:Int))=some (.inl (mk s' ((i+1:Nat):Int)))∧I (i+1) s') (he:∀ s,I N s→body (mk s (N:Int))=some (.inr (fin s)))
  {n:Nat} {s:σ} (hI:I 0 s) (hn:N<n):∃ s',bH body n (mk s 0)=some (fin s')∧I N s' :=
 DM N mk fin I hs he N 0 n s (by omega) hI hn
theorem s5 (n x:Nat) (hx:x<2 ^ 64) (hn:64<n):IC n x=some ((rk x 64:Nat):Int):=by
 have:=jK (body:=wS n x) 64 (fun (s:Int) (v:Int)=>(s,v)) id (fun i s=>s=((rk x i:Nat):Int)) (fun s i hi hI=>?_) (fun s _=>?_) (n:=n) (s:=0) rfl hn
 ·obtain ⟨s,h1,h2⟩:=this;unfold IC;simp only [h1,ah,id,h2]
 ·subst hI;have hle:rk x i≤i:=uB _ _;refine ⟨((rk x (i+1):Nat):Int),?_,rfl⟩;unfold wS;simp only [decide_eq_true (show ((i:Nat):Int)<64 by omega),cd,lD n x i hx hi,ah,bf (show i<4611686018427387904 by omega)]
  have e:rk x (i+1)=rk x i+(if x.testBit i then 1 else 0):=by
   unfold rk; rw [Fx,List.length_append]; split <;> simp
  rw [e]
  by_cases hb:x.testBit i
  ·rw [hb,cd,bf (by omega),ah,if_pos rfl]
  ·rw [Bool.not_eq_true] at hb;rw [hb,cF,ah]; simp
 ·unfold wS;simp [br]
def lexLt (p q:Int × Int):Prop:=p.1<q.1∨p.1=q.1∧p.2<q.2
section
variable {n0 M : Nat} {l6 : List Int} {es : List (Int × Int)}
end
def val (w:Nat):List Nat→Nat
 | []=>0
 | d::ds=>d+2 ^ w*val w ds
def qA (p:Int × Int) (l:List (Int × Int)):Int × Int:=(l.getLast?).getD p
theorem vp {N:Int} (e:Int × Int):∀ (l:List (Int × Int)) (p:Int × Int),kC N p (l++[e])=(kC N p l && bB N (qA p l) e)
 | [],p=>by rw [List.nil_append,gA]; simp [kC,qA]
 | x::l,p=>by
  rw [List.cons_append,gA,gA,vp e l x,Bool.and_assoc]
  congr 2
  unfold qA;cases l with
  | nil=>rfl
  | cons y l =>
   rw [List.getLast?_cons_cons];have:∃ z,(y::l).getLast? = some z:=⟨_,List.getLast?_eq_some_getLast (by simp)⟩
   obtain ⟨z,hz⟩:=this;rw [hz]; rfl
def mJ (N:Int) (l:List (Int × Int)) (a b:Int):Prop:=kC N (-1,-1) l=true∧((qA (-1,-1) l).1<a∨(qA (-1,-1) l).1=a∧(qA (-1,-1) l).2<b)
theorem mJ.add {N:Int} {l:List (Int × Int)} {a b:Int} (h:mJ N l a b) (ha:0≤a) (hab:a<b) (hb:b<N):mJ N (l++[(a,b)]) a (b+1):=by
 refine ⟨?_,.inr ?_⟩
 ·rw [vp,h.1,Bool.true_and];simp only [bB,Bool.and_eq_true,decide_eq_true_eq];exact ⟨⟨ha,hab,hb⟩,h.2⟩
 ·unfold qA;rw [List.getLast?_append];simp only [List.getLast?_singleton,Option.some_or,Option.getD_some];exact ⟨trivial,by omega⟩
theorem mJ.next {N:Int} {l:List (Int × Int)} {a b:Int} (h:mJ N l a b):mJ N l a (b+1):=⟨h.1,by rcases h.2 with h | h; exact .inl h; exact .inr (by omega)⟩
theorem mJ.row {N:Int} {l:List (Int × Int)} {a b c:Int} (h:mJ N l a b):mJ N l (a+1) c:=⟨h.1,.inl (by rcases h.2 with h | h <;> omega)⟩
theorem Cw (n0:Nat) (N a w:Int) (x3:Nat) (l4:List (Nat × Nat)) (hN:1≤N∧N≤12) (hw:w≠0) (l:List (Int × Int)) (c b:Int) (M:Nat) (hl:l.length≤M) (hM:M≤1000) (hb:0≤b∧b≤N) (ha:0≤a∧a<b) (hu:mJ N l a b) (n:Nat) (hn:12<n) (hn0:3<n0) :
  ∃ r,bH (wD n0 N a w x3 l4) n (l,c,b)=some r∧r.1.length≤M+12∧mJ N r.1 a N:=by
 refine uv (body:=wD n0 N a w x3 l4) (R:=fun r=>r.1.length≤M+12∧mJ N r.1 a N) (fun k s=>0≤s.2.2∧s.2.2+k=N∧s.1.length+k≤M+12∧a<s.2.2∧mJ N s.1 a s.2.2) (fun k s hI=>?_) (N-b).toNat (l,c,b) n ⟨hb.1,by simp only; omega,by simp only; omega,ha.2,hu⟩ (by omega)
 obtain ⟨l,c,b⟩:=s;obtain ⟨h1,h2,h3,h4,h5⟩:=hI;simp only at h1 h2 h3 h4 h5;simp only [wD]
 by_cases c1:b<N
 ·rw [aP c1];have e1:∃ z,br (decide (b=IntKind.wrap .i64 (a+w))) (some true) (br (decide (b=IntKind.wrap .i64 (a+1))) (gd (decide (w≠0)) (some (!decide (Int.tmod b w=0)))) (some false))=some z :=
   fK (fun _=>fu _) fun _=>fK (fun _=>⟨_,cy hw _⟩) fun _=>fu _
  obtain ⟨z,hz⟩:=e1;rw [hz,ah];have e2:∃ c' z',br z (ob (ob (br (decide (Int.tmod c 2=1)) (ob (some (cx .u16 x3 (ui .u64 (Int.tmod (IntKind.wrap .i64 (Int.tdiv c 2)) 16)))) fun y2906=>some (decide (uw .u16 (uw .u16 y2906 &&& uw .u16 1)=1))) (some false)) fun v2904=>br v2904 (some false) (some z)) fun v2900=>some (IntKind.wrap .i64 (c+1),v2900)) (some (c,z))=some (c',z'):=by
   cases z with
   | false=>exact ⟨c,false,rfl⟩
   | true =>
    rw [cd];have:∃ q,(ob (br (decide (Int.tmod c 2=1)) (ob (some (cx .u16 x3 (ui .u64 (Int.tmod (IntKind.wrap .i64 (Int.tdiv c 2)) 16)))) fun y2906=>some (decide (uw .u16 (uw .u16 y2906 &&& uw .u16 1)=1))) (some false)) fun v2904=>br v2904 (some false) (some true))=some q:=by
     by_cases h:Int.tmod c 2=1
     ·rw [aP h,ah,ah]; exact fK (fun _=>fu _) fun _=>fu _
     ·rw [aU h,ah]; exact fK (fun _=>fu _) fun _=>fu _
    obtain ⟨q,hq⟩:=this;exact ⟨_,q,by rw [hq,ah]⟩
  obtain ⟨c',z',hz'⟩:=e2;rw [hz',ah];obtain ⟨q,hq⟩:=Co n0 l4 N a b (by omega) z' n0 hn0
  simp only [hq,ah];cases q with
  | false =>
   refine .inl ⟨(l,c',b+1),?_,k-1,by omega,by simp only; omega,by simp only; omega,by simp only; omega,by simp only; omega,h5.next⟩
   rw [cF,ah,aK (by omega) (by omega)]
  | true =>
   refine .inl ⟨(l++[(a,b)],c',b+1),?_,k-1,by omega,by simp only; omega,by simp only; omega,by simp; omega,by simp only; omega,h5.add ha.1 h4 c1⟩
   rw [cd,fp (by simp; omega),aR,ah,aK (by omega) (by omega)]
 ·rw [aU c1]; exact .inr ⟨(l,c),rfl,by simp only; omega,(show b=N by omega) ▸ h5⟩
theorem Es (n0:Nat) (N w:Int) (x3:Nat) (l4:List (Nat × Nat)) (hN:1≤N∧N≤12) (hw:w≠0) (n:Nat) (hn:12<n) (hn0:12<n0) :
  ∃ r,bH (vT n0 N x3 l4) n (w,[],0,0)=some r∧r.length≤200∧kC N (-1,-1) r=true:=by
 refine uv (body:=vT n0 N x3 l4) (R:=fun r=>r.length≤200∧kC N (-1,-1) r=true) (fun k s=>s.1=w∧0≤s.2.2.2∧s.2.2.2+k=N∧s.2.1.length+12*k≤144∧mJ N s.2.1 s.2.2.2 0) (fun k s hI=>?_) N.toNat (w,[],0,0) n ⟨rfl,by simp,by simp only; omega,by simp; omega,⟨rfl,.inl (by show (-1:Int)<0; decide)⟩⟩ (by omega)
 obtain ⟨w',l,c,a⟩:=s;obtain ⟨rfl,h1,h2,h3,h4⟩:=hI;simp only at h1 h2 h3 h4 hw;simp only [vT]
 by_cases c1:a<N
 ·rw [aP c1];obtain ⟨r,hr,hrl,hru⟩:=Cw n0 N a w' x3 l4 hN hw l c (IntKind.wrap .i64 (a+1)) l.length (Nat.le_refl _) (by omega) (by rw [aK (by omega) (by omega)]; omega) (by rw [aK (by omega) (by omega)]; omega) (by rw [aK (by omega) (by omega)]; exact ⟨h4.1,h4.2.imp id fun h=>⟨h.1,by omega⟩⟩) n0 hn0 (by omega)
  obtain ⟨l',c'⟩:=r;simp only [hr,ah];exact .inl ⟨(w',l',c',a+1),by rw [aK (by omega) (by omega)],k-1,by omega,rfl,by simp only; omega,by simp only; omega,by simp only at hrl ⊢; omega,hru.row⟩
 ·rw [aU c1]; exact .inr ⟨l,rfl,by omega,h4.1⟩
theorem KI (n x1 x2 x3:Nat) (l4:List (Nat × Nat)) (hn:12<n):∃ N es,M3 n x1 x2 x3 l4=some (N,es)∧m9 N es=true:=by
 unfold M3;have w1:IntKind.wrap .i64 ((x1%4:Nat):Int)=((x1%4:Nat):Int):=aK (by omega) (by omega)
 have w2:IntKind.wrap .i64 ((x2%3:Nat):Int)=((x2%3:Nat):Int):=aK (by omega) (by omega)
 have w3:IntKind.wrap .i64 (1+((x1%4:Nat):Int))=1+((x1%4:Nat):Int):=aK (by omega) (by omega)
 have w4:IntKind.wrap .i64 (1+((x2%3:Nat):Int))=1+((x2%3:Nat):Int):=aK (by omega) (by omega)
 rw [w1,w2,w3,w4,ah];have hN:∀ a b:Nat,a<4→b<3→1≤(1+(a:Int))*(1+(b:Int))∧(1+(a:Int))*(1+(b:Int))≤12:=by
  intro a b ha hb;have h1:a=0∨a=1∨a=2∨a=3:=by omega
  have h2:b=0∨b=1∨b=2:=by omega
  rcases h1 with rfl | rfl | rfl | rfl <;> rcases h2 with rfl | rfl | rfl <;> decide
 have hN':=hN (x1%4) (x2%3) (Nat.mod_lt _ (by omega)) (Nat.mod_lt _ (by omega))
 rw [aK (by omega) (by omega)]
 obtain ⟨r,hr,hl,hu⟩:=Es n ((1+((x1%4:Nat):Int))*(1+((x2%3:Nat):Int))) (1+((x1%4:Nat):Int)) x3 l4 hN' (by omega) n hn hn
 refine ⟨_,r,by rw [hr,ah],?_⟩
 simp only [m9,Bool.and_eq_true,decide_eq_true_eq];exact ⟨⟨hN'.1,by omega,hl⟩,hu⟩
theorem vy {a b c:Int × Int} (h:lexLt a b) (g:lexLt b c):lexLt a c:=by unfold lexLt at *; omega
theorem zV {N:Int}:∀ {es:List (Int × Int)} {p:Int × Int},kC N p es=true→(p::es).Pairwise lexLt
 | [],p,_=>by simp
 | e::es,p,h=>by
  rw [gA,Bool.and_eq_true] at h;have ih:=zV h.2;have hpe:lexLt p e:=by
   have:=h.1;simp only [bB,Bool.and_eq_true,decide_eq_true_eq] at this;exact this.2
  refine List.pairwise_cons.2 ⟨fun q hq=>?_,ih⟩;rcases List.mem_cons.1 hq with rfl | hq
  ·exact hpe
  ·exact vy hpe ((List.pairwise_cons.1 ih).1 q hq)
theorem Hi {N:Int} {es:List (Int × Int)} (h:m9 N es=true):es.Pairwise lexLt:=by
 simp only [m9,Bool.and_eq_true] at h;exact (List.pairwise_cons.1 (zV h.2)).2
theorem zo (S M:Nat):(eF S M).Pairwise (· < ·):=List.Pairwise.filter _ List.pairwise_lt_range
end Go.Proofs.YtookeaakpiefjaaGreatDoor
end

section
namespace Go.Proofs.YtookeaakpiefjaaGreatDoor
open Go Go.Ab Go.Ab.W Go.Ab.T30
def jr (s:Nat) (e:Nat × Nat):Nat:=if s.testBit e.1 || s.testBit e.2 then s ||| 2 ^ e.1 ||| 2 ^ e.2 else s
def sv (T:List (Nat × Nat)) (s:Nat):Nat:=T.foldl jr s
def F5 (T:List (Nat × Nat)):Prop:=∀ e ∈ T,e.1<64∧e.2<64
theorem wJ {s:Nat} {e:Nat × Nat} (hs:s<2 ^ 64) (h1:e.1<64) (h2:e.2<64):jr s e<2 ^ 64:=by
 unfold jr
 split
 ·exact ud (ud hs (jo h1)) (jo h2)
 ·exact hs
theorem kj {s i:Nat} {e:Nat × Nat}:(jr s e).testBit i=true↔s.testBit i=true∨((s.testBit e.1=true∨s.testBit e.2=true)∧(i=e.1∨i=e.2)):=by
 unfold jr
 by_cases h:(s.testBit e.1 || s.testBit e.2)=true
 ·rw [if_pos h];simp only [Nat.testBit_or,Bool.or_eq_true,pF,decide_eq_true_eq];rw [Bool.or_eq_true] at h;constructor
  ·rintro ((h1 | h1) | h1)
   ·exact .inl h1
   ·exact .inr ⟨h,.inl h1⟩
   ·exact .inr ⟨h,.inr h1⟩
  ·rintro (h1 | ⟨_,h1 | h1⟩)
   ·exact .inl (.inl h1)
   ·exact .inl (.inr h1)
   ·exact .inr h1
 ·rw [if_neg h];rw [Bool.or_eq_true] at h;exact ⟨.inl,fun h1=>h1.elim id fun h1=>absurd h1.1 h⟩
theorem rv {s i:Nat} {e:Nat × Nat} (h:s.testBit i=true):(jr s e).testBit i=true:=kj.2 (.inl h)
theorem oU:∀ {T:List (Nat × Nat)} {s i:Nat},s.testBit i=true→(sv T s).testBit i=true
 | [],_,_,h=>h
 | e::T,s,i,h=>oU (T:=T) (rv (e:=e) h)
theorem tV:∀ {T:List (Nat × Nat)} {s:Nat},F5 T→s<2 ^ 64→sv T s<2 ^ 64
 | [],_,_,h=>h
 | e::T,s,ht,h=>tV (T:=T) (fun e he=>ht e (by simp [he])) (wJ h (ht e (by simp)).1 (ht e (by simp)).2)
theorem CA {T:List (Nat × Nat)} {x:Nat}:∀ {T':List (Nat × Nat)} {s:Nat},(∀ e ∈ T',e ∈ T)→(∀ i,s.testBit i=true→Cn T x i)→∀ i,(sv T' s).testBit i=true→Cn T x i
 | [],_,_,h=>h
 | e::T',s,ht,h=>CA (T':=T') (fun e he=>ht e (by simp [he])) fun i hi=>by
  obtain ⟨a,b⟩:=e;have hab:Nb T a b:=.inl (ht (a,b) (by simp))
  rcases kj.1 hi with h1 | ⟨h1,h2⟩
  ·exact h i h1
  ·rcases h1 with h1 | h1 <;> rcases h2 with rfl | rfl
   ·exact h _ h1
   ·exact .step (h _ h1) hab
   ·exact .step (h _ h1) hab.symm
   ·exact h _ h1
theorem sub_eq {a b:Nat} (h1:∀ i,a.testBit i=true→b.testBit i=true) (h2:∀ i,b.testBit i=true→a.testBit i=true):a=b:=w8 fun i=>⟨h1 i,h2 i⟩
theorem ti:∀ {T:List (Nat × Nat)} {s:Nat},sv T s=s→∀ e ∈ T,(s.testBit e.1=true↔s.testBit e.2=true)
 | [],_,_,e,he=>by cases he
 | e::T,s,h,e',he=>by
  have h1:jr s e=s:=sub_eq (fun i hi=>by
   have:(sv T (jr s e)).testBit i=true:=oU hi;rw [show sv T (jr s e)=sv (e::T) s from rfl,h] at this; exact this) fun i hi=>rv hi
  rcases List.mem_cons.1 he with rfl | he
  ·constructor
   ·intro h2; rw [← h1]; exact kj.2 (.inr ⟨.inl h2,.inr rfl⟩)
   ·intro h2; rw [← h1]; exact kj.2 (.inr ⟨.inr h2,.inl rfl⟩)
  ·have h2:sv T s=s:=by
    have:sv (e::T) s=sv T (jr s e):=rfl;rw [this,h1] at h; exact h
   exact ti h2 e' he
def Kn (T:List (Nat × Nat)) (x w:Nat):Prop:=w<2 ^ 64∧∀ j,w.testBit j=true↔Cn T x j
theorem Kn.uniq {T:List (Nat × Nat)} {x w w':Nat} (h:Kn T x w) (h':Kn T x w'):w=w':=w8 fun i=>(h.2 i).trans (h'.2 i).symm
theorem Kp {T:List (Nat × Nat)} {x w:Nat} (hw:w<2 ^ 64) (hx:w.testBit x=true) (hc:∀ i,w.testBit i=true→Cn T x i) (hf:sv T w=w):Kn T x w:=by
 refine ⟨hw,fun j=>⟨hc j,fun h=>?_⟩⟩;refine h.closed (Q:=fun j=>w.testBit j=true) hx fun a b ha hn=>?_;rcases hn with hn | hn
 ·exact (ti hf _ hn).1 ha
 ·exact (ti hf _ hn).2 ha
theorem vF {p q:Nat→Bool}:∀ {l:List Nat},(∀ x,p x=true→q x=true)→(∃ x ∈ l,q x=true∧p x=false)→(l.filter p).length<(l.filter q).length:=by
 intro l
 induction l with
 | nil=>intro _ h; obtain ⟨x,h,_⟩:=h; cases h
 | cons a l ih =>
  intro h1 h2;have hle:∀ l:List Nat,(l.filter p).length≤(l.filter q).length:=fun l=>by
   induction l with
   | nil=>exact Nat.le_refl _
   | cons b l ih =>
    by_cases hb:p b=true
    ·rw [List.filter_cons_of_pos hb,List.filter_cons_of_pos (h1 b hb)]; simp only [List.length_cons]; omega
    ·rw [List.filter_cons_of_neg hb]
     by_cases hq:q b=true
     ·rw [List.filter_cons_of_pos hq]; simp only [List.length_cons]; omega
     ·rw [List.filter_cons_of_neg hq]; exact ih
  obtain ⟨x,hx,h3,h4⟩:=h2
  by_cases ha:p a=true
  ·rw [List.filter_cons_of_pos ha,List.filter_cons_of_pos (h1 a ha)];have hx':x ∈ l:=by
    rcases List.mem_cons.1 hx with rfl | hx
    ·rw [ha] at h4; cases h4
    ·exact hx
   have:=ih h1 ⟨x,hx',h3,h4⟩;simp only [List.length_cons]; omega
  ·rw [List.filter_cons_of_neg ha]
   by_cases hq:q a=true
   ·rw [List.filter_cons_of_pos hq];have:=hle l;simp only [List.length_cons]; omega
   ·rw [List.filter_cons_of_neg hq];have hx':x ∈ l:=by
     rcases List.mem_cons.1 hx with rfl | hx
     ·exact absurd h3 hq
     ·exact hx
    exact ih h1 ⟨x,hx',h3,h4⟩
theorem H4 {a b:Nat} (hb:b<2 ^ 64) (h:∀ i,a.testBit i=true→b.testBit i=true) (hne:b≠a):rk a 64<rk b 64:=by
 refine vF (p:=fun i=>a.testBit i) (q:=fun i=>b.testBit i) h ?_;refine Classical.byContradiction fun hno=>hne (sub_eq (fun i hi=>?_) h);refine Classical.byContradiction fun hn=>hno ⟨i,List.mem_range.2 (rE hb hi),hi,by simpa using hn⟩
theorem Er {a x:Nat} (h:a.testBit x=true) (hx:x<64):1≤rk a 64:=List.length_pos_of_mem (dx.2 ⟨hx,h⟩)
def Ls (T:List (Nat × Nat)):Nat→Nat→Nat
 | 0,s=>s
 | k+1,s=>Ls T k (sv T s)
theorem AJ {T:List (Nat × Nat)} {x:Nat} (hT:F5 T) (hx:x<64):∀ (k s:Nat),s<2 ^ 64→s.testBit x=true→(∀ i,s.testBit i=true→Cn T x i)→(sv T s=s∨65≤k+rk s 64)→Kn T x (Ls T k s)
 | 0,s,hs,hb,hc,hk=>by
  rcases hk with hk | hk
  ·exact Kp hs hb hc hk
  ·have:rk s 64≤64:=uB _ _;omega
 | k+1,s,hs,hb,hc,hk=>by
  refine AJ hT hx k (sv T s) (tV hT hs) (oU hb) (CA (fun e h=>h) hc) ?_
  by_cases h:sv T s=s
  ·exact .inl (by rw [h,h])
  ·rcases hk with hk | hk
   ·exact absurd hk h
   ·have:=H4 (tV hT hs) (fun i=>oU (T:=T)) h;exact .inr (by omega)
theorem HZ {T:List (Nat × Nat)} {x:Nat} (hT:F5 T) (hx:x<64):Kn T x (Ls T 64 (2 ^ x)):=by
 have hb:(2 ^ x).testBit x=true:=by rw [pF]; simp
 refine AJ hT hx 64 (2 ^ x) (jo hx) hb (fun i hi=>?_) (.inr ?_)
 ·rw [pF,decide_eq_true_eq] at hi; rw [hi]; exact .refl
 ·have:=Er hb hx; omega
end Go.Proofs.YtookeaakpiefjaaGreatDoor
end

section
namespace Go.Proofs.YtookeaakpiefjaaGreatDoor
open Go Go.Ab Go.Ab.W Go.Ab.T30
def eg (es:List (Int × Int)) (k:Int):Nat × Nat:=match es[k.toNat]? with
 | some e=>(e.1.toNat,e.2.toNat)
 | none=>(0,0)
def Vl (es:List (Int × Int)) (k:Int):Prop:=0≤k∧k<(es.length:Int)
theorem gV {N:Nat} {es:List (Int × Int)} {k:Int} (h:Okay N es) (hk:Vl es k):∃ a b:Nat,es[k.toNat]? = some ((a:Int),(b:Int))∧eg es k=(a,b)∧a<b∧b<64∧b<N∧bD k es.length=true:=by
 obtain ⟨i,rfl⟩:=Int.eq_ofNat_of_zero_le hk.1;have hi:i<es.length:=by have:=hk.2; omega
 obtain ⟨a,b,e,h1,h2⟩:=h.mem _ (List.getElem_mem hi);have h3:es[((i:Nat):Int).toNat]? = some ((a:Int),(b:Int)):=by rw [Int.toNat_natCast,List.getElem?_eq_getElem hi,e]
 have:=h.le;exact ⟨a,b,h3,by unfold eg; rw [h3]; simp,h1,by omega,h2,aF hi⟩
theorem xi {N:Nat} {es:List (Int × Int)} (h:Okay N es) {l:List Int} (hl:∀ k ∈ l,Vl es k):F5 (l.map (eg es)):=fun e he=>by
 obtain ⟨k,hk,rfl⟩:=List.mem_map.1 he;obtain ⟨a,b,_,h2,h3,h4,_⟩:=gV h (hl k hk);rw [h2]; exact ⟨Nat.lt_trans h3 h4,h4⟩
theorem se (T:List (Nat × Nat)):∀ (l:List Nat) (s:Nat),l.foldl (fun s _=>sv T s) s=Ls T l.length s
 | [],_=>rfl
 | _::l,s=>se T l (sv T s)
theorem Df {N:Nat} {es:List (Int × Int)} (h:Okay N es) {l:List Int} (hl:∀ k ∈ l,Vl es k) (n0 n s:Nat) (hs:s<2 ^ 64) (hb:l.length<4611686018427387904) (hn:l.length<n):bH (rS n0 l es) n (s,0)=some (sv (l.map (eg es)) s):=by
 have:=vA (body:=rS n0 l es) l (fun (s:Nat) (v:Int)=>(s,v)) (fun s k=>jr s (eg es k)) id (fun _ s=>s<2 ^ 64) (fun s i k hk hI=>?_) (fun s _=>?_) (n:=n) (s:=s) hs hn
 ·rw [this.1]; unfold sv; rw [List.foldl_map]; rfl
 ·have hlt:=(List.getElem?_eq_some_iff.1 hk).1;obtain ⟨a,b,h1,h2,h3,h4,_,h5⟩:=gV h (hl k (List.mem_of_getElem? hk));have hk':l[((i:Nat):Int).toNat]? = some k:=by rw [Int.toNat_natCast]; exact hk
  refine ⟨?_,by rw [h2]; exact wJ hI (by simp only; omega) (by simp only; omega)⟩
  unfold rS;simp only [decide_eq_true (show ((i:Nat):Int)<(l.length:Int) by omega),cd,aF hlt,aR,hk',ah,h5,h1,lD n0 s a hI (by omega),lD n0 s b hI h4,oW n0 a (by omega),oW n0 b h4,bf (show i<4611686018427387904 by omega),h2]
  unfold jr;cases ha:s.testBit a <;> cases hbb:s.testBit b <;> simp only [cd,cF,ah,Bool.or_true,Bool.or_false,Bool.true_or,if_true,Bool.false_eq_true,if_false] <;> first
   | rfl
   | (rw [oP hI (jo (show a<64 by omega)),oP (ud hI (jo (show a<64 by omega))) (jo h4)])
 ·unfold rS;simp [br]
theorem JC {N:Nat} {es:List (Int × Int)} (h:Okay N es) {l:List Int} (hl:∀ k ∈ l,Vl es k) (n i:Nat) (x:Int) (hi:i<64) (hb:l.length<4611686018427387904) (hn:l.length<n) (hn2:64<n):Lj n x es l (i:Int)=some (Ls (l.map (eg es)) 64 (2 ^ i)):=by
 have:=Gz (body:=xr n l es) 64 (fun (s:Nat) (v:Int)=>(s,v)) (fun s _=>sv (l.map (eg es)) s) id (fun _ s=>s<2 ^ 64) (fun s i hi hI=>?_) (fun s _=>?_) (n:=n) (s:=2 ^ i) (jo hi) hn2
 ·unfold Lj;rw [oW n i hi,ah,this.1,se,List.length_range]; rfl
 ·refine ⟨?_,tV (xi h hl) hI⟩;unfold xr;simp only [decide_eq_true (show ((i:Nat):Int)<64 by omega),cd,Df h hl n n s hI hb hn,ah,bf (show i<4611686018427387904 by omega)]
 ·unfold xr;simp [br]
theorem Gb {N:Nat} {es:List (Int × Int)} (h:Okay N es) {l:List Int} (hl:∀ k ∈ l,Vl es k) (n i:Nat) (x:Int) (hi:i<64) (hb:l.length<4611686018427387904) (hn:l.length<n) (hn2:64<n):∃ w,Lj n x es l (i:Int)=some w∧Kn (l.map (eg es)) i w:=⟨_,JC h hl n i x hi hb hn hn2,HZ (xi h hl) hi⟩
def wo (l:List Int) (x:Int):List Int:=l.filter (fun k=>!decide (k=x))
theorem EB {l:List Int} {x k:Int} (h:k ∈ wo l x):k ∈ l∧k≠x:=by
 unfold wo at h;rw [List.mem_filter] at h
 simpa using h
theorem JL {l:List Int} {x k:Int} (h:k ∈ l) (hne:k≠x):k ∈ wo l x:=by
 unfold wo;rw [List.mem_filter]
 simpa using ⟨h,hne⟩
end Go.Proofs.YtookeaakpiefjaaGreatDoor
end

section
namespace Go.Proofs.YtookeaakpiefjaaGreatDoor
open Go Go.Ab Go.Ab.W Go.Ab.T30
def gw (es:List (Int × Int)):List Int→Nat→(Nat→Nat)→List (List Int)
 | _,0,_=>[[]]
 | [],_+1,_=>[]
 | k::L,d+1,r=>(if r (eg es k).1=r (eg es k).2 then [] else (gw es L d (bg r (eg es k))).map (k::·))++gw es L (d+1) r
def Ej (p q y:Nat):Nat:=if y=p then q else y
theorem tE {p q y z:Nat} (h:p≠q):Ej p q y=Ej p q z↔y=z∨((y=p∨y=q)∧(z=p∨z=q)):=by
 unfold Ej
 split <;> split <;> omega
theorem qI (r:Nat→Nat) (e:Nat × Nat) (v:Nat):bg r e v=Ej (max (r e.1) (r e.2)) (min (r e.1) (r e.2)) (r v):=rfl
theorem bK {r:Nat→Nat} {e:Nat × Nat} (h:r e.1≠r e.2) (v w:Nat):bg r e v=bg r e w↔r v=r w∨((r v=r e.1∨r v=r e.2)∧(r w=r e.1∨r w=r e.2)):=by
 rw [qI,qI,tE (by omega)]
 omega
theorem oX (ρ:Nat→Nat) (u v i:Nat):mg ρ u v i=Ej u v (ρ i):=rfl
theorem Ee {ρ:Nat→Nat} {s a b:Nat} (h:ρ a≠ρ b) (i j:Nat):(if ρ a=s then mg ρ (ρ b) (ρ a) else mg ρ (ρ a) (ρ b)) i=(if ρ a=s then mg ρ (ρ b) (ρ a) else mg ρ (ρ a) (ρ b)) j↔ρ i=ρ j∨((ρ i=ρ a∨ρ i=ρ b)∧(ρ j=ρ a∨ρ j=ρ b)):=by
 by_cases hs:ρ a=s
 ·simp only [if_pos hs];rw [oX,oX,tE (fun e=>h e.symm)];omega
 ·simp only [if_neg hs];rw [oX,oX,tE h]
def dg (s:Nat) (ρ:Nat→Nat):Nat:=((List.range s).filter fun i=>ρ i == i).length
theorem GR {s:Nat} {ρ:Nat→Nat} (h:Rho s ρ) {a b:Nat} (ha:a≤s) (hb:b≤s) (hab:ρ a≠ρ b):dg s ρ=dg s (if ρ a=s then mg ρ (ρ b) (ρ a) else mg ρ (ρ a) (ρ b))+1:=by
 have key:∀ u v,ρ u=u→ρ v=v→u≠v→u<s→dg s ρ=dg s (mg ρ u v)+1:=fun u v hu hv huv hus=>by
  refine jC List.nodup_range (List.mem_range.2 hus) (by simpa using hu) fun i=>?_
  simp only [beq_iff_eq];unfold mg;constructor
  ·intro h1
   by_cases hi:ρ i=u
   ·rw [if_pos hi] at h1;rw [← h1,hv] at hi;exact absurd hi.symm huv
   ·rw [if_neg hi] at h1;exact ⟨h1,fun e=>hi (by rw [h1,e])⟩
  ·rintro ⟨h1,h2⟩;rw [if_neg (fun e=>h2 (by rw [← h1,e])),h1]
 by_cases hs:ρ a=s
 ·rw [if_pos hs];have h1:=h.le b hb;exact key _ _ (h.idem b) (h.idem a) (fun e=>hab e.symm) (by omega)
 ·rw [if_neg hs];have h1:=h.le a ha;exact key _ _ (h.idem a) (h.idem b) hab (by omega)
theorem oZ {s:Nat} {ρ:Nat→Nat}:dg s ρ=0↔(List.range s).all (fun i=>ρ i != i)=true:=by
 unfold dg;rw [List.length_eq_zero_iff,List.filter_eq_nil_iff,List.all_eq_true];simp
theorem mh {s:Nat} {ρ:Nat→Nat} (h:Rho s ρ) (h0:dg s ρ=0) {i:Nat} (hi:i≤s):ρ i=s:=by
 have h1:=List.all_eq_true.1 (oZ.1 h0);have h2:=h.le i hi
 by_cases h3:ρ i<s
 ·have h4:=h1 (ρ i) (List.mem_range.2 h3);rw [h.idem] at h4;simp at h4
 ·omega
theorem vL {s:Nat} {ρ:Nat→Nat} (h:Rho s ρ) (h0:dg s ρ=0):∀ E:List (Nat × Nat),(∀ e ∈ E,e.1≤s∧e.2≤s)→oJ s ρ E=1
 | [],_=>by simp only [oJ]; rw [if_pos (oZ.1 h0)]
 | (a,b)::E,hE=>by
  have ha:a≤s:=(hE (a,b) List.mem_cons_self).1;have hb:b≤s:=(hE (a,b) List.mem_cons_self).2;simp only [oJ];rw [if_pos (by rw [mh h h0 ha,mh h h0 hb]),vL h h0 E fun e he=>hE e (List.mem_cons_of_mem _ he)]
theorem yj {es:List (Int × Int)} {V:Nat→Prop} {s:Nat} {ψ:Nat→Nat} (hψ:∀ v,V v→ψ v≤s) :
  ∀ (L:List Int) (r ρ:Nat→Nat),Rho s ρ→(∀ v w,V v→V w→(r v=r w↔ρ (ψ v)=ρ (ψ w)))→(∀ k ∈ L,V (eg es k).1∧V (eg es k).2) →
   (gw es L (dg s ρ) r).length=oJ s ρ (ja ψ (L.map (eg es)))
 | [],r,ρ,h,hr,_=>by
  simp only [List.map_nil,ja,oJ]
  by_cases h0:dg s ρ=0
  ·rw [if_pos (oZ.1 h0),h0]; rfl
  ·rw [if_neg (fun e=>h0 (oZ.2 e))];obtain ⟨d,hd⟩:∃ d,dg s ρ=d+1:=⟨dg s ρ-1,by omega⟩
   rw [hd]; rfl
 | k::L,r,ρ,h,hr,hL=>by
  obtain ⟨va,vb⟩:=hL k List.mem_cons_self;have hL':=fun k' hk'=>hL k' (List.mem_cons_of_mem _ hk');have ha:=hψ _ va;have hb:=hψ _ vb
  by_cases h0:dg s ρ=0
  ·rw [vL h h0 _ (fun e he=>by
    obtain ⟨e',h1,rfl⟩:=List.mem_map.1 he;obtain ⟨k',h2,rfl⟩:=List.mem_map.1 h1;exact ⟨hψ _ (hL k' h2).1,hψ _ (hL k' h2).2⟩),h0]
   rfl
  ·have ih:=yj (es:=es) hψ L r ρ h hr hL';have hc:ja ψ ((k::L).map (eg es))=(ψ (eg es k).1,ψ (eg es k).2)::ja ψ (L.map (eg es)):=rfl;rw [hc];simp only [oJ]
   by_cases hab:ρ (ψ (eg es k).1)=ρ (ψ (eg es k).2)
   ·rw [if_pos hab,Nat.add_zero,← ih];obtain ⟨d,hd⟩:∃ d,dg s ρ=d+1:=⟨dg s ρ-1,by omega⟩
    rw [hd];simp only [gw];rw [if_pos ((hr _ _ va vb).2 hab),List.nil_append]
   ·rw [if_neg hab,← ih];have hra:r (eg es k).1≠r (eg es k).2:=fun e=>hab ((hr _ _ va vb).1 e);have ih2:=yj (es:=es) hψ L (bg r (eg es k)) _ (h.step ha hb hab) (fun v w hv hw=>by
     rw [bK hra,Ee hab,hr v w hv hw,hr v _ hv va,hr v _ hv vb,hr w _ hw va,hr w _ hw vb]) hL'
    have hd:=GR h ha hb hab;rw [hd];simp only [gw];rw [if_neg hra,List.length_append,List.length_map,ih2];omega
end Go.Proofs.YtookeaakpiefjaaGreatDoor
end

section
namespace Go.Proofs.YtookeaakpiefjaaGreatDoor
open Go Go.Ab Go.Ab.W Go.Ab.T30
def hZ (es:List (Int × Int)) (x:Nat) (k:Int):Bool:=decide (0≤k∧k<(es.length:Int)) && x.testBit (eg es k).1 && x.testBit (eg es k).2
theorem tY {es:List (Int × Int)} {x:Nat} {k:Int} (h:hZ es x k=true):Vl es k∧x.testBit (eg es k).1=true∧x.testBit (eg es k).2=true:=by
 simp only [hZ,Bool.and_eq_true,decide_eq_true_eq] at h;exact ⟨h.1.1,h.1.2,h.2⟩
theorem Ey {N:Nat} {es:List (Int × Int)} (h:Okay N es) (n:Nat) (x1 k:Int) (x:Nat) (hx:x<2 ^ 64):Lh n x1 es x k=some (hZ es x k):=by
 unfold Lh
 by_cases h1:0≤k
 ·by_cases h2:k<(es.length:Int)
  ·obtain ⟨a,b,e1,e2,e3,e4,_,e5⟩:=gV h ⟨h1,h2⟩;have ha:a<64:=by omega
   simp only [decide_eq_true h1,decide_eq_true h2,cd,e5,aR,e1,ah,lD n x a hx ha,lD n x b hx e4,hZ,e2,h1,h2,and_self,decide_true,Bool.true_and];cases x.testBit a <;> rfl
  ·simp only [decide_eq_true h1,decide_eq_false h2,cd,cF,hZ,h2,and_false,decide_false,Bool.false_and]
 ·simp only [decide_eq_false h1,cF,hZ,h1,false_and,decide_false,Bool.false_and]
theorem qv (n x a b:Nat) (hx:x<2 ^ 64) (ha:a<64) (hb:b<64):Hk n x (a:Int) (b:Int)=some (x.testBit a && x.testBit b):=by
 unfold Hk;rw [decide_eq_true (Int.natCast_nonneg a),decide_eq_true (Int.natCast_nonneg b),aR,aR,Int.toNat_natCast,Int.toNat_natCast,sU hx (by omega),sU hx (by omega)]
 cases x.testBit a <;> rfl
structure Fst (p:List Int) (r:Nat→Nat):Prop where
 len:p.length=64
 at_:∀ v,v<64→∃ y:Nat,p[v]? = some (y:Int)∧y≤v∧(y=v→r v=v)∧(y≠v→r v=r y)
theorem Fst.root {p:List Int} {r:Nat→Nat} (h:Fst p r) (n0:Nat):∀ (v n:Nat),v<64→v<n→bH (fw n0 p) n (v:Int)=some ((r v:Nat):Int):=by
 intro v
 induction v using Nat.strongRecOn with
 | _ v ih =>
  intro n hv hn;obtain ⟨n,rfl⟩:∃ n',n=n'+1:=⟨n-1,by omega⟩
  obtain ⟨y,h1,h2,h3,h4⟩:=h.at_ v hv;have hb:bD (v:Int) p.length=true:=aF (by rw [h.len]; exact hv)
  by_cases hy:y=v
  ·rw [h3 hy];exact aZ (by unfold fw; simp [hb,h1,hy,gd,ob,br])
  ·rw [h4 hy,aY (s':=(y:Int)) (by unfold fw; simp only [hb,aR,Int.toNat_natCast,h1,ah]; rw [decide_eq_false (by omega)]; rfl)]
   exact ih y (by omega) n (by omega) (by omega)
theorem z7 {p:List Int} {r:Nat→Nat} (h:Fst p r) (n v:Nat) (hv:v<64) (hn:64<n):Bc n p (v:Int)=some ((r v:Nat):Int):=by
 unfold Bc;rw [h.root n v n hv (by omega),ah]
theorem Fst.join {p:List Int} {r:Nat→Nat} {E:List (Nat × Nat)} (h:Fst p r) (hr:Rt r E) {e:Nat × Nat} (h1:e.1<64) (h2:e.2<64):Fst (p.set (max (r e.1) (r e.2)) ((min (r e.1) (r e.2):Nat):Int)) (bg r e):=by
 have l1:=hr.le e.1;have l2:=hr.le e.2;have hM:max (r e.1) (r e.2)<64:=by omega
 have hrM:r (max (r e.1) (r e.2))=max (r e.1) (r e.2):=by
  rcases Nat.le_total (r e.1) (r e.2) with g | g
  ·rw [Nat.max_eq_right g,hr.rr]
  ·rw [Nat.max_eq_left g,hr.rr]
 have hrm:r (min (r e.1) (r e.2))=min (r e.1) (r e.2):=by
  rcases Nat.le_total (r e.1) (r e.2) with g | g
  ·rw [Nat.min_eq_left g,hr.rr]
  ·rw [Nat.min_eq_right g,hr.rr]
 refine ⟨by rw [List.length_set,h.len],fun v hv=>?_⟩
 simp only [bg]
 by_cases hvM:v=max (r e.1) (r e.2)
 ·subst hvM;refine ⟨min (r e.1) (r e.2),by rw [List.getElem?_set_self (by rw [h.len]; exact hM)],by omega,fun hy=>?_,fun hy=>?_⟩
  ·rw [if_pos hrM]; exact hy
  ·rw [if_pos hrM,hrm,if_neg hy]
 ·obtain ⟨y,g1,g2,g3,g4⟩:=h.at_ v hv;refine ⟨y,by rw [List.getElem?_set_ne (fun e=>hvM e.symm)]; exact g1,g2,fun hy=>?_,fun hy=>?_⟩
  ·rw [g3 hy,if_neg hvM]
  ·rw [g4 hy]
theorem F0 (n:Nat) (hn:64<n):∃ p,MW n=some p∧Fst p (fun x=>x):=by
 have:=jK (body:=xj n) 64 (fun (s:List Int) (v:Int)=>(s,v)) id (fun i s=>s.length=64∧∀ v,v<i→s[v]? = some (v:Int)) (fun s i hi hI=>?_) (fun s _=>?_) (n:=n) (s:=List.replicate 64 (0:Int)) ⟨by simp,fun v hv=>absurd hv (Nat.not_lt_zero _)⟩ hn
 ·obtain ⟨p,h1,h2,h3⟩:=this;refine ⟨p,?_,h2,fun v hv=>⟨v,h3 v hv,Nat.le_refl _,fun _=>rfl,fun h=>absurd rfl h⟩⟩;unfold MW;have e:(List.replicate (64:Int).toNat (0:Int))=List.replicate 64 0:=rfl;rw [e,decide_eq_true (by decide),aR,show iB ((64:Int).toNat)=true from rfl,aR,h1]; rfl
 ·refine ⟨s.set i (i:Int),?_,by rw [List.length_set]; exact hI.1,fun v hv=>?_⟩
  ·unfold xj;have e:((64:Int).toNat)=64:=rfl;have hs:s[i]? = some (s[i]'(by rw [hI.1]; exact hi)):=List.getElem?_eq_getElem _
   simp only [e,decide_eq_true (show ((i:Nat):Int)<((64:Nat):Int) by omega),cd,aF hi,aR,Int.toNat_natCast,hs,ah,bf (show i<4611686018427387904 by omega)]
  ·by_cases hvi:v=i
   ·subst hvi; rw [List.getElem?_set_self (by rw [hI.1]; exact hi)]
   ·rw [List.getElem?_set_ne (fun e=>hvi e.symm)]; exact hI.2 v (by omega)
 ·unfold xj;simp [br]
theorem size_eq {l:List Int} {x:Nat} (hb:l.length<4611686018427387904) (h0:1≤rk x 64):decide ((l.length:Int)=IntKind.wrap .i64 (((rk x 64:Nat):Int)-1))=decide (l.length+1=rk x 64):=by
 have h1:rk x 64≤64:=uB _ _;rw [aK (by omega) (by omega)]
 by_cases h:l.length+1=rk x 64
 ·rw [decide_eq_true h,decide_eq_true (by omega)]
 ·rw [decide_eq_false h,decide_eq_false (by omega)]
theorem FY {x:Nat} (hx:x<2 ^ 64) (h0:x≠0):1≤rk x 64:=by
 have:=sG (Nat.pos_of_ne_zero h0) hx;exact Er this.1 (rE hx this.1)
theorem nf (x:Nat):(eF x 64).Nodup:=(zo x 64).imp fun h=>Nat.ne_of_lt h
theorem DC {N:Nat} {es:List (Int × Int)} (h:Okay N es) {x:Nat} {l:List Int} (hl:∀ k ∈ l,hZ es x k=true):∀ e ∈ l.map (eg es),e.1 ∈ eF x 64∧e.2 ∈ eF x 64:=fun e he=>by
 obtain ⟨k,hk,rfl⟩:=List.mem_map.1 he;obtain ⟨h1,h2,h3⟩:=tY (hl k hk);obtain ⟨a,b,_,g2,g3,g4,_⟩:=gV h h1;rw [g2] at h2 h3 ⊢;exact ⟨dx.2 ⟨Nat.lt_trans g3 g4,h2⟩,dx.2 ⟨g4,h3⟩⟩
theorem CW {N:Nat} {es:List (Int × Int)} (h:Okay N es) {x v:Nat} {l:List Int} (hx:x<2 ^ 64) (hl:∀ k ∈ l,hZ es x k=true) (hlen:l.length+1=rk x 64) (hv:x.testBit v=true):bZ (fun v=>v) (l.map (eg es))=true↔∀ j,x.testBit j=true→Cn (l.map (eg es)) v j:=by
 have hv64:=rE hx hv;rw [Fg (nf x) (DC h hl) (dx.2 ⟨hv64,hv⟩) (by rw [List.length_map]; exact hlen)]
 exact ⟨fun g j hj=>g j (dx.2 ⟨rE hx hj,hj⟩),fun g j hj=>g j (dx.1 hj).2⟩
end Go.Proofs.YtookeaakpiefjaaGreatDoor
end

section
namespace Go.Proofs.YtookeaakpiefjaaGreatDoor
open Go Go.Ab Go.Ab.W Go.Ab.T30
def N5 (es:List (Int × Int)) (at_:Nat) (k:Int):Bool:=decide ((eg es k).1=at_) || decide ((eg es k).2=at_)
def Nl (es:List (Int × Int)) (at_:Nat) (k:Int):Nat:=(eg es k).1+(eg es k).2-at_
theorem BL {es:List (Int × Int)} {at_:Nat} {k:Int} (h:N5 es at_ k=true):eg es k=(at_,Nl es at_ k)∨eg es k=(Nl es at_ k,at_):=by
 simp only [N5,Bool.or_eq_true,decide_eq_true_eq] at h;unfold Nl;generalize eg es k=e at *;obtain ⟨a,b⟩:=e;simp only at h ⊢;rcases h with rfl | rfl
 ·exact .inl (by simp)
 ·exact .inr (by simp)
structure Tr (N:Nat) (es:List (Int × Int)) (x:Nat) (l:List Int):Prop where
 ok:Okay N es
 hx:x<2 ^ 64
 h0:x≠0
 hZ:∀ k ∈ l,hZ es x k=true
 len:l.length+1=rk x 64
 all:bZ (fun v=>v) (l.map (eg es))=true
 asc:l.Pairwise (· < ·)
section
variable {N : Nat} {es : List (Int × Int)} {x : Nat} {l : List Int} {at_ to : Nat} {k : Int}
theorem Tr.vl (h:Tr N es x l):∀ k ∈ l,Vl es k:=fun k hk=>(tY (h.hZ k hk)).1
theorem Tr.cn (h:Tr N es x l) {a b:Nat} (ha:x.testBit a=true) (hb:x.testBit b=true):Cn (l.map (eg es)) a b:=(CW h.ok h.hx h.hZ h.len ha).1 h.all b hb
theorem K7 {k k':Int}:k' ∈ wo l k↔k' ∈ l∧k'≠k:=⟨EB,fun h=>JL h.1 h.2⟩
theorem behind {R:List Int} (hR:k ∈ R) (hc:Cn (R.map (eg es)) at_ to) (ht:N5 es at_ k=true) (hn:¬ Cn ((wo R k).map (eg es)) at_ to):Cn ((wo R k).map (eg es)) (Nl es at_ k) to:=by
 have hc':Cn (eg es k::(wo R k).map (eg es)) at_ to:=(Al fun e=>by
  rw [List.mem_cons];constructor
  ·intro he;obtain ⟨k',hk',rfl⟩:=List.mem_map.1 he
   by_cases hkk:k'=k
   ·exact .inl (by rw [hkk])
   ·exact .inr (List.mem_map.2 ⟨k',K7.2 ⟨hk',hkk⟩,rfl⟩)
  ·rintro (rfl | he)
   ·exact List.mem_map.2 ⟨k,hR,rfl⟩
   ·obtain ⟨k',hk',rfl⟩:=List.mem_map.1 he;exact List.mem_map.2 ⟨k',(EB hk').1,rfl⟩).1 hc
 rcases BL ht with e | e <;> rw [e] at hc' <;> rcases z8.1 hc' with g | ⟨g1,g2⟩ | ⟨g1,g2⟩
 ·exact absurd g hn
 ·exact g2
 ·exact absurd g2 hn
 ·exact absurd g hn
 ·exact absurd g2 hn
 ·exact g2
end
section
variable {N : Nat} {es : List (Int × Int)} {x : Nat} {l : List Int} {at_ to : Nat}
end
end Go.Proofs.YtookeaakpiefjaaGreatDoor
end

section
namespace Go.Proofs.YtookeaakpiefjaaGreatDoor
open Go Go.Ab Go.Ab.W Go.Ab.T30
theorem BD {a i:Nat} (ha:a<2 ^ 64) (hi:i<64):uw .u64 (uw .u64 a ||| uw .u64 (2 ^ i))=a ||| 2 ^ i:=oP ha (jo hi)
theorem Mf {a i:Nat} (hi:i<64):rk (a ||| 2 ^ i) 64≤rk a 64+1:=by
 have key:∀ (l:List Nat),l.Nodup→(l.filter (a ||| 2 ^ i).testBit).length≤(l.filter a.testBit).length+(if i ∈ l then 1 else 0):=by
  intro l
  induction l with
  | nil=>intro _; simp
  | cons b l ih =>
   intro hn;rw [List.nodup_cons] at hn;have ih:=ih hn.2
   by_cases hb:i=b
   ·subst hb;rw [if_neg hn.1] at ih;rw [if_pos (by simp)]
    rw [List.filter_cons_of_pos (by rw [Nat.testBit_or,pF]; simp)]
    by_cases h1:a.testBit i=true
    ·rw [List.filter_cons_of_pos h1]; simp only [List.length_cons]; omega
    ·rw [List.filter_cons_of_neg h1]; simp only [List.length_cons]; omega
   ·have h2:(a ||| 2 ^ i).testBit b=a.testBit b:=by rw [Nat.testBit_or,pF,decide_eq_false (fun e=>hb e.symm),Bool.or_false]
    have h3:(if i ∈ b::l then 1 else 0)=(if i ∈ l then 1 else 0):=by
     by_cases h4:i ∈ l
     ·rw [if_pos h4,if_pos (by simp [h4])]
     ·rw [if_neg h4,if_neg (by simp [hb,h4])]
    rw [h3]
    by_cases h1:a.testBit b=true
    ·rw [List.filter_cons_of_pos h1,List.filter_cons_of_pos (by rw [h2]; exact h1)]; simp only [List.length_cons]; omega
    ·rw [List.filter_cons_of_neg h1,List.filter_cons_of_neg (by rw [h2]; exact h1)]; exact ih
 have:=key (List.range 64) List.nodup_range;rw [if_pos (List.mem_range.2 hi)] at this;exact this
theorem xR (n M x:Nat) (es:List (Int × Int)) (hM:M≤64) (hx:x<2 ^ 64) (hn:70<n):∃ w,Ix n (M:Int) es x=some w∧w<2 ^ 64∧rk w 64≤9:=by
 have step:∀ (s i:Nat),s<2 ^ 64→rk s 64≤9→i≤M→(∃ s',qF n (M:Int) x (s,(i:Int))=some (.inl (s',((i+1:Nat):Int)))∧s'<2 ^ 64∧rk s' 64≤9∧i<M)∨qF n (M:Int) x (s,(i:Int))=some (.inr s):=by
  intro s i hs hr hi;unfold qF;simp only [s5 n s hs (by omega),ah]
  by_cases h1:i<M
  ·rw [decide_eq_true (show (i:Int)<(M:Int) by omega),cd,ah]
   by_cases h2:rk s 64<9
   ·rw [decide_eq_true (show ((rk s 64:Nat):Int)<9 by omega),cd,lD n x i hx (by omega),ah,oW n i (by omega),bf (by omega)]
    refine .inl ?_;cases x.testBit i with
    | true=>exact ⟨s ||| 2 ^ i,by simp only [cd,ah,BD hs (show i<64 by omega)],ud hs (jo (by omega)),by have:=@Mf s i (by omega); omega,h1⟩
    | false=>exact ⟨s,rfl,hs,hr,h1⟩
   ·rw [decide_eq_false (show ¬ ((rk s 64:Nat):Int)<9 by omega)]; exact .inr rfl
  ·rw [decide_eq_false (show ¬ (i:Int)<(M:Int) by omega)]; exact .inr rfl
 have loop:∀ k i s n',i+k=M→s<2 ^ 64→rk s 64≤9→k<n'→∃ w,bH (qF n (M:Int) x) n' (s,(i:Int))=some w∧w<2 ^ 64∧rk w 64≤9:=by
  intro k
  induction k with
  | zero =>
   intro i s n' hi hs hr hn';obtain ⟨n',rfl⟩:∃ k,n'=k+1:=⟨n'-1,by omega⟩
   rcases step s i hs hr (by omega) with ⟨_,_,_,_,h⟩ | h
   ·omega
   ·exact ⟨s,aZ h,hs,hr⟩
  | succ k ih =>
   intro i s n' hi hs hr hn';obtain ⟨n',rfl⟩:∃ k,n'=k+1:=⟨n'-1,by omega⟩
   rcases step s i hs hr (by omega) with ⟨s',h,h1,h2,_⟩ | h
   ·rw [aY h];exact ih (i+1) s' n' (by omega) h1 h2 (by omega)
   ·exact ⟨s,aZ h,hs,hr⟩
 obtain ⟨w,h1,h2,h3⟩:=loop M 0 0 n (by omega) (by decide) (by decide +kernel) (by omega)
 refine ⟨w,?_,h2,h3⟩;unfold Ix;rw [show bH (qF n (M:Int) x) n (0,0)=some w from h1,ah]
theorem Jx (n what:Nat) (bn:Int) (bs:Nat) (N:Int) (es:List (Int × Int)) (x:Nat) (hl:es.length≤200) (hx:x<2 ^ 64):∃ N' es' x',LU n what bn bs N es x=some (N',es',x')∧es'.length≤200∧x'<2 ^ 64:=by
 have e31:Mj n es=some es:=by unfold Mj; rw [fp (by omega)]; rfl
 unfold LU;rw [e31,ah]
 by_cases h0:what%6=0
 ·rw [decide_eq_true h0]; exact ⟨_,_,_,rfl,hl,hx⟩
 ·rw [decide_eq_false h0,cF]
  by_cases h1:what%6=1
  ·rw [decide_eq_true h1,cd]
   by_cases h2:0<es.length
   ·rw [decide_eq_true (show (0:Int)<(es.length:Int) by omega),cd]
    have hu:ui .u64 (es.length:Int)=es.length:=by
     show ((es.length:Int)%((2 ^ 64:Nat):Int)).toNat=es.length
     omega
    rw [hu,decide_eq_true h2,aR,ah];have hm:ui .u64 bn%es.length<es.length:=Nat.mod_lt _ h2;generalize ui .u64 bn%es.length=j at hm;rw [aK (x:=((j:Nat):Int)) (by omega) (by omega),aF hm,aR]
    have e1:es[((j:Nat):Int).toNat]? = some (es[j]'hm):=by simp [hm]
    rw [e1,ah];generalize es[j]'hm=p at *;obtain ⟨a,b⟩:=p;simp only [aR];rw [Int.toNat_natCast,List.getElem?_set_self hm,ah];exact ⟨_,_,_,rfl,by rw [List.length_set,List.length_set]; exact hl,hx⟩
   ·rw [decide_eq_false (show ¬ (0:Int)<(es.length:Int) by omega)]; exact ⟨_,_,_,rfl,hl,hx⟩
  ·rw [decide_eq_false h1,cF]
   by_cases h2:what%6=2
   ·rw [decide_eq_true h2]; exact ⟨_,_,_,rfl,hl,Nat.mod_lt _ (Nat.two_pow_pos 64)⟩
   ·rw [decide_eq_false h2,cF]
    by_cases h3:what%6=3
    ·rw [decide_eq_true h3]; exact ⟨_,_,_,rfl,hl,by decide⟩
    ·rw [decide_eq_false h3]; exact ⟨_,_,_,rfl,hl,hx⟩
end Go.Proofs.YtookeaakpiefjaaGreatDoor
end

section
namespace Go.Proofs.YtookeaakpiefjaaGreatDoor
open Go Go.Ab Go.Ab.W Go.Ab.T30
theorem Bg {i:Nat} (h:i<4611686018427387904) (h0:0<i):IntKind.wrap .i64 ((i:Int)-1)=((i-1:Nat):Int):=by rw [aK (by omega) (by omega)]; omega
end Go.Proofs.YtookeaakpiefjaaGreatDoor
end

section
namespace Go.Proofs.YtookeaakpiefjaaGreatDoor
open Go Go.Ab Go.Ab.W Go.Ab.T30
def cb:Nat→Nat→Nat
 | _,0=>1
 | 0,_+1=>0
 | e+1,d+1=>cb e d+cb e (d+1)
theorem lT (e:Nat):cb e 0=1:=by cases e <;> rfl
theorem sS (e d:Nat):cb (e+1) (d+1)=cb e d+cb e (d+1):=rfl
theorem HH {e e':Nat} (h:e≤e') (d:Nat):cb e d≤cb e' d:=by
 induction h with
 | refl=>exact Nat.le_refl _
 | step _ ih =>
  cases d with
  | zero=>rw [lT,lT]; exact Nat.le_refl _
  | succ d=>rw [sS]; omega
def tb:Nat→Nat × Nat × Nat × Nat × Nat × Nat × Nat × Nat
 | 0=>(0,0,0,0,0,0,0,0)
 | e+1=>let (a,b,c,d,f,g,h,i):=tb e; (1+a,a+b,b+c,c+d,d+f,f+g,g+h,h+i)
theorem I0:∀ e,tb e=(cb e 1,cb e 2,cb e 3,cb e 4,cb e 5,cb e 6,cb e 7,cb e 8)
 | 0=>rfl
 | e+1=>by
  unfold tb;rw [I0 e];simp only [sS,lT]
def LJ:Bool:=match tb 36 with
 | (a,b,c,d,f,g,h,i)=>Nat.ble a 1073741824 && Nat.ble b 1073741824 && Nat.ble c 1073741824 && Nat.ble d 1073741824 && Nat.ble f 1073741824 && Nat.ble g 1073741824 && Nat.ble h 1073741824 && Nat.ble i 1073741824
theorem NB:LJ=true:=by decide +kernel
theorem DA {e d:Nat} (he:e≤36) (hd:d≤8):cb e d≤1073741824:=by
 refine Nat.le_trans (HH he d) ?_;have h:=NB;unfold LJ at h;rw [I0] at h;simp only [Bool.and_eq_true,Nat.ble_eq] at h;have:d=0∨d=1∨d=2∨d=3∨d=4∨d=5∨d=6∨d=7∨d=8:=by omega
 rcases this with rfl | rfl | rfl | rfl | rfl | rfl | rfl | rfl | rfl
 ·rw [lT]; decide
 all_goals omega
def ib (x:Nat) (e:Int × Int):Bool:=x.testBit e.1.toNat && x.testBit e.2.toNat
def inc (es:List (Int × Int)) (x i:Nat):Nat:=((es.drop i).filter (ib x)).length
theorem E8 {es:List (Int × Int)} {x i:Nat} (hi:i<es.length):inc es x i=inc es x (i+1)+(if hZ es x (i:Int)=true then 1 else 0):=by
 have e1:hZ es x (i:Int)=ib x es[i]:=by
  simp only [hZ,ib,eg,Int.toNat_natCast,List.getElem?_eq_getElem hi];rw [decide_eq_true ⟨Int.natCast_nonneg i,by omega⟩,Bool.true_and]
 unfold inc;rw [List.drop_eq_getElem_cons hi,e1]
 by_cases h:ib x es[i]=true
 ·rw [List.filter_cons_of_pos h,if_pos h,List.length_cons]
 ·rw [List.filter_cons_of_neg h,if_neg h]; rfl
theorem inc_le {es:List (Int × Int)} {x:Nat}:∀ {i j:Nat},i≤j→inc es x j≤inc es x i:=by
 intro i j h;unfold inc;obtain ⟨k,rfl⟩:∃ k,j=i+k:=⟨j-i,by omega⟩
 rw [← List.drop_drop];exact (List.Sublist.filter _ (List.drop_sublist _ _)).length_le
theorem sw {α:Type} [DecidableEq α]:∀ {l m:List α},l.Nodup→(∀ a ∈ l,a ∈ m)→l.length≤m.length
 | [],_,_,_=>Nat.zero_le _
 | a::l,m,hn,h=>by
  rw [List.nodup_cons] at hn;have ha:=h a (by simp)
  have:=sw (l:=l) (m:=m.erase a) hn.2 fun b hb=>(List.mem_erase_of_ne (fun e=>hn.1 (by rw [← e]; exact hb))).2 (h b (by simp [hb]))
  rw [List.length_erase_of_mem ha] at this;have:0<m.length:=List.length_pos_of_mem ha;rw [List.length_cons]; omega
def prs:List Nat→List (Int × Int)
 | []=>[]
 | v::V=>(V.map fun w=>(((v:Nat):Int),((w:Nat):Int)))++prs V
theorem AB:∀ {V:List Nat},V.Pairwise (· < ·)→∀ {a b:Nat},a ∈ V→b ∈ V→a<b→((a:Int),(b:Int)) ∈ prs V
 | [],_,a,b,ha,_,_=>by cases ha
 | v::V,h,a,b,ha,hb,hab=>by
  rw [List.pairwise_cons] at h;unfold prs;rcases List.mem_cons.1 ha with e1 | ha'
  ·rcases List.mem_cons.1 hb with e2 | hb'
   ·omega
   ·rw [e1]; exact List.mem_append_left _ (List.mem_map.2 ⟨b,hb',rfl⟩)
  ·rcases List.mem_cons.1 hb with e2 | hb'
   ·have:=h.1 a ha'; omega
   ·exact List.mem_append_right _ (AB h.2 ha' hb' hab)
theorem AL:∀ (V:List Nat),2*(prs V).length+V.length=V.length*V.length
 | []=>rfl
 | v::V=>by
  have:=AL V;unfold prs;rw [List.length_append,List.length_map,List.length_cons];have h2:(V.length+1)*(V.length+1)=V.length*V.length+2*V.length+1:=by rw [Nat.add_mul,Nat.mul_add]; omega
  omega
theorem j7 {N:Nat} {es:List (Int × Int)} {x:Nat} (hok:m9 (N:Int) es=true) (h:Okay N es) (hr:rk x 64≤9) (i:Nat):inc es x i≤36:=by
 refine Nat.le_trans (inc_le (Nat.zero_le i)) ?_;have hasc:=Hi hok;have hnd:(es.filter (ib x)).Nodup:=((List.Pairwise.filter _ hasc).imp fun {a b} hab e=>by
  subst e; unfold lexLt at hab; omega)
 have hle:=sw (m:=prs (eF x 64)) hnd fun e he=>by
  obtain ⟨h1,h2⟩:=List.mem_filter.1 he;obtain ⟨a,b,rfl,h3,h4⟩:=h.mem e h1;simp only [ib,Int.toNat_natCast,Bool.and_eq_true] at h2;have:=h.le;exact AB (zo x 64) (dx.2 ⟨by omega,h2.1⟩) (dx.2 ⟨by omega,h2.2⟩) h3
 have hp:=AL (eF x 64);have hV:(eF x 64).length≤9:=hr;unfold inc;rw [List.drop_zero];generalize (eF x 64).length=v at *;have hv:v=0∨v=1∨v=2∨v=3∨v=4∨v=5∨v=6∨v=7∨v=8∨v=9:=by omega
 rcases hv with rfl | rfl | rfl | rfl | rfl | rfl | rfl | rfl | rfl | rfl <;> omega
def FH (begin_:List Int):Nat:=match begin_.getLast? with
 | some k=>k.toNat+1
 | none=>0
def FJ (N:Int) (es:List (Int × Int)) (x:Nat):Int:=if m9 N es then (if x=0∨2 ^ N.toNat≤x then 2 else 0) else 180
theorem Fj (n:Nat) (N:Int) (es:List (Int × Int)) (x:Nat) (hx:x<2 ^ 64) (hl:es.length<4611686018427387904) (hk:es.length<n):Lm n N es x=some (FJ N es x):=by
 unfold Lm FJ;rw [xY n N es hl hk,ah]
 by_cases hok:m9 N es=true
 ·simp only [FC,hok,if_true,decide_true,Bool.not_true,cF]
  by_cases h0:x=0
  ·simp [h0,br]
  ·rw [Ij n N es x hx hl hk];simp only [h0,decide_false,cF,ah,false_or,NJ,hok,if_true]
 ·rw [Bool.not_eq_true] at hok;simp [FC,hok,br]
end Go.Proofs.YtookeaakpiefjaaGreatDoor
end

section
namespace Go.Proofs.YtookeaakpiefjaaGreatDoor
open Go Go.Ab Go.Ab.W Go.Ab.T30
def il (es:List (Int × Int)) (x i j:Nat):List Int:=((List.range' i j).filter fun (k:Nat)=>hZ es x (k:Int)).map fun (k:Nat)=>(k:Int)
theorem Ak (es:List (Int × Int)) (x i j:Nat):il es x i (j+1)=if hZ es x (i:Int) then (i:Int)::il es x (i+1) j else il es x (i+1) j:=by
 unfold il;rw [List.range'_succ,List.filter_cons]
 split <;> rfl
theorem zZ (es:List (Int × Int)):∀ (L:List Int) (d:Nat) (r:Nat→Nat),(gw es L d r).length≤cb L.length d
 | L,0,r=>by cases L <;> simp [gw,lT]
 | [],d+1,r=>Nat.zero_le _
 | k::L,d+1,r=>by
  have h1:=zZ es L (d+1) r;simp only [gw,List.length_append,List.length_cons,sS]
  split
  ·simp only [List.length_nil]; omega
  ·have h2:=zZ es L d (bg r (eg es k));rw [List.length_map]; omega
theorem pw (es:List (Int × Int)) (x:Nat):∀ j i,i+j=es.length→(il es x i j).length=inc es x i
 | 0,i,h=>by
  unfold il inc;rw [List.drop_eq_nil_of_le (by omega)]; rfl
 | j+1,i,h=>by
  have ih:=pw es x j (i+1) (by omega)
  rw [Ak,E8 (by omega)]
  split
  ·rw [List.length_cons,ih]
  ·rw [ih]; rfl
theorem Cc (T:List (Nat × Nat)) (e:Nat × Nat):rep (T++[e])=bg (rep T) e:=by
 unfold rep;rw [List.foldl_append]; rfl
theorem Hv {N:Nat} {es:List (Int × Int)} {x:Nat} (h:Okay N es) (hx:x<2 ^ 64) (h0:x≠0) (n:Nat) (hn:300<n) (hB:∀ i d,d≤8→cb (inc es x i) d≤1073741824) (hr:rk x 64≤9) :
  ∀ (d:Nat) (begin_:List Int) (k:Nat),begin_.length+d+1=rk x 64→(∀ y ∈ begin_,Vl es y)→d<k →
   xa n k (N:Int) es x begin_=some ((gw es (il es x (FH begin_) (es.length-FH begin_)) d (rep (begin_.map (eg es)))).map (begin_++·)):=by
 have hlen:=h.len;intro d
 induction d with
 | zero =>
  intro begin_ k hb hv hk;obtain ⟨k,rfl⟩:∃ k',k=k'+1:=⟨k-1,by omega⟩
  show qd n (xa n k) (N:Int) es x begin_=_
  unfold qd;rw [s5 n x hx (by omega),ah,size_eq (by omega) (by omega),decide_eq_true (by omega),cd,fp (by simp; omega)]
  cases il es x (FH begin_) (es.length-FH begin_) <;> simp [gw,gd]
 | succ d ih =>
  intro begin_ k hb hv hk;obtain ⟨k,rfl⟩:∃ k',k=k'+1:=⟨k-1,by omega⟩
  have hfrm:∃ m:Nat,(br (decide (0<(begin_.length:Int))) (gd (bD (IntKind.wrap .i64 ((begin_.length:Int)-1)) begin_.length) (ob (begin_[(IntKind.wrap .i64 ((begin_.length:Int)-1)).toNat]?) fun x31=>some (IntKind.wrap .i64 (x31+1)))) (some 0))=some (m:Int)∧m=FH begin_∧m≤es.length:=by
   unfold FH
   by_cases hb0:0<begin_.length
   ·have hg:begin_[begin_.length-1]? = some (begin_[begin_.length-1]'(by omega)):=List.getElem?_eq_getElem _
    have hm:=hv _ (List.getElem_mem (show begin_.length-1<begin_.length by omega))
    rw [List.getLast?_eq_getElem?,hg];simp only [decide_eq_true (show (0:Int)<(begin_.length:Int) by omega),cd,Bg (show begin_.length<4611686018427387904 by omega) hb0,aF (show begin_.length-1<begin_.length by omega),aR,Int.toNat_natCast,hg,ah]
    generalize begin_[begin_.length-1]'(by omega)=y at hm
    obtain ⟨y,rfl⟩:=Int.eq_ofNat_of_zero_le hm.1;have:=hm.2;exact ⟨y+1,by rw [bf (by omega)],by rw [Int.toNat_natCast],by omega⟩
   ·have:begin_ = []:=List.length_eq_zero_iff.1 (by omega)
    subst this;exact ⟨0,rfl,rfl,Nat.zero_le _⟩
  obtain ⟨m,hm1,hm2,hm3⟩:=hfrm;rw [← hm2];have hcap:((gw es (il es x m (es.length-m)) (d+1) (rep (begin_.map (eg es)))).map (begin_++·)).length≤1073741824:=by
   rw [List.length_map];refine Nat.le_trans (zZ es _ _ _) ?_;rw [pw es x (es.length-m) m (by omega)]
   exact hB m (d+1) (by omega)
  generalize hG:(gw es (il es x m (es.length-m)) (d+1) (rep (begin_.map (eg es)))).map (begin_++·)=G at hcap ⊢;obtain ⟨out,g1,g2⟩:=uv (body:=um n es (N:Int) x begin_ (xa n k)) (R:=fun out=>out=G) (fun j s=>∃ i:Nat,s.2=(i:Int)∧i+j=es.length∧s.1++(gw es (il es x i j) (d+1) (rep (begin_.map (eg es)))).map (begin_++·)=G) (fun j s hI=>by
   obtain ⟨s1,s2⟩:=s;obtain ⟨i,e1,e2,e3⟩:=hI;simp only at e1 e3;subst e1;unfold um
   by_cases hi:i<es.length
   ·have hvi:Vl es (i:Int):=⟨Int.natCast_nonneg i,by omega⟩
    obtain ⟨a,b,c1,c2,c3,c4,_,c5⟩:=gV h hvi;have c1':es[i]? = some ((a:Int),(b:Int)):=by rw [Int.toNat_natCast] at c1; exact c1
    have ha:a<64:=by omega
    obtain ⟨w,w1,w2⟩:=Gb h hv n a (N:Int) ha (by omega) (by omega) (by omega)
    obtain ⟨j,rfl⟩:∃ j',j=j'+1:=⟨j-1,by omega⟩
    simp only [decide_eq_true (show (i:Int)<(es.length:Int) by omega),cd,Ey h n (N:Int) (i:Int) x hx,ah,Int.toNat_natCast,c5,aR,c1',w1,lD n w b w2.1 c4,bf (show i<4611686018427387904 by omega)]
    rw [Ak] at e3;cases hin:hZ es x (i:Int) with
    | false =>
     rw [hin] at e3;exact .inl ⟨_,rfl,j,by omega,i+1,rfl,by omega,e3⟩
    | true =>
     rw [hin,if_pos rfl] at e3;simp only [gw,c2] at e3;simp only [Bool.not_true,cF,ah];have hwb:w.testBit b=true↔rep (begin_.map (eg es)) a=rep (begin_.map (eg es)) b:=by rw [sH]; exact w2.2 b
     cases hw:w.testBit b with
     | true =>
      rw [if_pos (hwb.1 hw),List.nil_append] at e3;exact .inl ⟨_,rfl,j,by omega,i+1,rfl,by omega,e3⟩
     | false =>
      rw [if_neg (fun e=>by rw [hwb.2 e] at hw; cases hw),List.map_append,List.map_map] at e3
      simp only [cF];have r1:=ih (([]:List Int)++begin_++[(i:Int)]) k (by simp; omega) (fun y hy=>by
       rw [List.nil_append] at hy;rcases List.mem_append.1 hy with hy | hy
       ·exact hv y hy
       ·rw [List.mem_singleton.1 hy]; exact hvi) (by omega)
      have hf2:FH (([]:List Int)++begin_++[(i:Int)])=i+1:=by
       unfold FH;rw [List.getLast?_concat];simp
      rw [hf2,List.nil_append,List.map_append,List.map_singleton,Cc,c2,show es.length-(i+1)=j by omega] at r1
      have e4:(fun l=>begin_++[(i:Int)]++l)=((fun l=>begin_++l) ∘ fun l=>(i:Int)::l):=by funext l; simp
      rw [e4] at r1;have hle:=congrArg List.length e3;simp only [List.length_append] at hle;rw [fp (by simp; omega),aR,fp (by simp; omega),aR,List.nil_append,r1,ah,fp (by rw [List.length_append]; omega),aR]
      exact .inl ⟨_,rfl,j,by omega,i+1,rfl,by omega,by simp only; rw [List.append_assoc]; exact e3⟩
   ·simp only [decide_eq_false (show ¬ (i:Int)<(es.length:Int) by omega),cF]
    have hj:j=0:=by omega
    subst hj;have:il es x i 0 = []:=rfl;rw [this] at e3;simp only [gw,List.map_nil,List.append_nil] at e3;exact .inr ⟨_,rfl,e3⟩) (es.length-m) (([]:List (List Int)),(m:Int)) n ⟨m,rfl,by omega,by rw [List.nil_append]; exact hG⟩ (by omega)
  show qd n (xa n k) (N:Int) es x begin_=_
  unfold qd;rw [s5 n x hx (by omega),ah,size_eq (by omega) (by omega),decide_eq_false (by omega),cF,hm1,ah,g1,ah,g2]
end Go.Proofs.YtookeaakpiefjaaGreatDoor
end

section
namespace Go.Proofs.YtookeaakpiefjaaGreatDoor
open Go Go.Ab Go.Ab.W
def vl:List Nat→Nat
 | []=>0
 | d::l=>d+18446744073709551616*vl l
def Wd (l:List Nat):Prop:=∀ d ∈ l,d<18446744073709551616
def wp (k:Nat):Nat:=18446744073709551616 ^ k
theorem Iq:wp 0=1:=rfl
theorem gO (k:Nat):wp (k+1)=18446744073709551616*wp k:=by unfold wp; rw [Nat.pow_succ,Nat.mul_comm]
theorem Ki (a b:Nat):wp (a+b)=wp a*wp b:=Nat.pow_add _ _ _
theorem Ec (k:Nat):0<wp k:=Nat.pow_pos (by decide)
theorem jO:vl []=0:=rfl
theorem e7 (d:Nat) (l:List Nat):vl (d::l)=d+18446744073709551616*vl l:=rfl
theorem xQ (a b:List Nat):vl (a++b)=vl a+wp a.length*vl b:=by
 induction a with
 | nil=>simp [vl,wp]
 | cons d a ih=>rw [List.cons_append,e7,e7,ih,List.length_cons,gO,Nat.mul_add,Nat.mul_assoc,Nat.add_assoc]
theorem sh {l:List Nat} (h:Wd l):vl l<wp l.length:=by
 induction l with
 | nil=>exact Nat.one_pos
 | cons d l ih =>
  have h1:=h d List.mem_cons_self;have h2:=ih fun e he=>h e (List.mem_cons_of_mem _ he);rw [e7,List.length_cons,gO];omega
theorem Fo (k:Nat):vl (List.replicate k 0)=0:=by
 induction k with
 | zero=>rfl
 | succ k ih=>rw [List.replicate_succ,e7,ih]
theorem Wd.nil:Wd []:=fun _ h=>nomatch h
theorem Wd.zeros (k:Nat):Wd (List.replicate k 0):=fun d hd=>by rw [List.eq_of_mem_replicate hd]; decide
theorem Wd.app {a b:List Nat} (ha:Wd a) (hb:Wd b):Wd (a++b):=fun d hd=>(List.mem_append.1 hd).elim (ha d) (hb d)
theorem Wd.right {a b:List Nat} (h:Wd (a++b)):Wd b:=fun d hd=>h d (List.mem_append.2 (.inr hd))
theorem Wd.one {d:Nat} (h:d<18446744073709551616):Wd [d]:=fun e he=>by rw [List.mem_singleton.1 he]; exact h
theorem Wd.at {l:List Nat} (h:Wd l) {i d:Nat} (hi:l[i]? = some d):d<18446744073709551616:=h d (List.mem_of_getElem? hi)
theorem Wd.set {l:List Nat} (h:Wd l) {i d:Nat} (hd:d<18446744073709551616):Wd (l.set i d):=fun e he=>by
 rcases List.mem_or_eq_of_mem_set he with h1 | rfl
 ·exact h e h1
 ·exact hd
theorem Wd.take {l:List Nat} (h:Wd l) (k:Nat):Wd (l.take k):=fun d hd=>h d (List.mem_of_mem_take hd)
theorem Wd.drop {l:List Nat} (h:Wd l) (k:Nat):Wd (l.drop k):=fun d hd=>h d (List.mem_of_mem_drop hd)
theorem eA (l:List Nat) (i:Nat) (hi:i≤l.length):vl l=vl (l.take i)+wp i*vl (l.drop i):=by
 have:=xQ (l.take i) (l.drop i);rwa [List.take_append_drop,List.length_take,Nat.min_eq_left hi] at this
theorem kK {l:List Nat} {i d:Nat} (hi:l[i]? = some d):vl (l.drop i)=d+18446744073709551616*vl (l.drop (i+1)):=by
 obtain ⟨h1,h2⟩:=List.getElem?_eq_some_iff.1 hi;rw [List.drop_eq_getElem_cons h1,e7,h2]
theorem DO {l:List Nat} {i d:Nat} (e:Nat) (hi:l[i]? = some d):vl (l.set i e)+wp i*d=vl l+wp i*e:=by
 obtain ⟨h1,h2⟩:=List.getElem?_eq_some_iff.1 hi;have a:=eA l i (Nat.le_of_lt h1);have b:=eA (l.set i e) i (by rw [List.length_set]; exact Nat.le_of_lt h1)
 have c:(l.set i e)[i]? = some e:=by rw [List.getElem?_set_self h1]
 rw [kK hi] at a;rw [kK c,List.take_set_of_le (Nat.le_refl i),List.drop_set_of_lt (show i<i+1 from Nat.lt_succ_self i)] at b
 rw [a,b,Nat.mul_add,Nat.mul_add];omega
structure Lg (z:Int) (s:Bool) (l:List Nat):Prop where
 wd:Wd l
 last:∀ d,l.getLast? = some d→d≠0
 val:z=if s then -(vl l:Int) else (vl l:Int)
 sign:s=true→l≠[]
theorem tX {l:List Nat} (h:∀ d,l.getLast? = some d→d≠0) (hl:l≠[]):wp (l.length-1)≤vl l:=by
 obtain ⟨a,d,rfl⟩:∃ a d,l=a++[d]:=⟨l.dropLast,l.getLast hl,(List.dropLast_concat_getLast hl).symm⟩;have h1:=h d (by simp)
 rw [xQ,List.length_append,List.length_singleton,Nat.add_sub_cancel,e7,jO];have:wp a.length*1≤wp a.length*(d+18446744073709551616*0):=Nat.mul_le_mul_left _ (by omega)
 omega
theorem jj {l:List Nat} (h:∀ d,l.getLast? = some d→d≠0):vl l=0↔l = []:=by
 refine ⟨fun h1=>?_,fun h1=>by rw [h1]; rfl⟩
 by_cases hl:l = []
 ·exact hl
 ·have:=tX h hl;have:=Ec (l.length-1);omega
theorem sx {d:Nat} {l:List Nat} (h:∀ e,(d::l).getLast? = some e→e≠0):∀ e,l.getLast? = some e→e≠0:=by
 intro e he;cases l with
 | nil=>cases he
 | cons a l=>exact h e (by rw [List.getLast?_cons_cons]; exact he)
theorem DY:∀ {l k:List Nat},Wd l→Wd k→(∀ d,l.getLast? = some d→d≠0)→(∀ d,k.getLast? = some d→d≠0)→vl l=vl k→l=k:=by
 intro l
 induction l with
 | nil=>intro k _ _ _ hk h; exact ((jj hk).1 h.symm).symm
 | cons d l ih =>
  intro k wl wk hl hk h;cases k with
  | nil=>exact absurd ((jj hl).1 h) (by simp)
  | cons e k =>
   have h1:=wl d List.mem_cons_self;have h2:=wk e List.mem_cons_self;rw [e7,e7] at h;have h3:d=e:=by omega
   have h4:vl l=vl k:=by omega
   rw [h3,ih (fun x hx=>wl x (List.mem_cons_of_mem _ hx)) (fun x hx=>wk x (List.mem_cons_of_mem _ hx)) (sx hl) (sx hk) h4]
theorem Lg.inj {z:Int} {s t:Bool} {l k:List Nat} (h:Lg z s l) (h':Lg z t k):s=t∧l=k:=by
 have a:=h.val;have b:=h'.val;have hz:=jj h.last;have hz':=jj h'.last;have e:vl l=vl k:=by
  cases s <;> cases t <;> simp only [Bool.false_eq_true,if_false,if_true] at a b <;> omega
 have e':=DY h.wd h'.wd h.last h'.last e;refine ⟨?_,e'⟩;subst e';cases s <;> cases t <;> simp only [Bool.false_eq_true,if_false,if_true] at a b
 ·rfl
 ·exact absurd (hz.1 (by omega)) (h'.sign rfl)
 ·exact absurd (hz.1 (by omega)) (h.sign rfl)
 ·rfl
def vk (s:Bool) (x:Nat):Int:=if s then -(x:Int) else (x:Int)
theorem Lg.zero:Lg 0 false []:={ wd:=Wd.nil,last:=fun _ h=>(nomatch h),val:=rfl,sign:=fun h=>(nomatch h)}
theorem Lg.small {x:Nat} (h0:x≠0) (h:x<18446744073709551616) (s:Bool):Lg (vk s x) s [x]:=⟨Wd.one h,fun d hd=>by simp at hd; omega,by simp [vk,vl],fun _=>by simp⟩
theorem Lg.BY {z:Int} {s:Bool} {l:List Nat} (h:Lg z s l):s=decide (z<0):=by
 have a:=h.val;have hz:=jj h.last;cases s with
 | false=>simp only [Bool.false_eq_true,if_false] at a; rw [decide_eq_false (by omega)]
 | true =>
  simp only [if_true] at a;have:vl l≠0:=fun e=>h.sign rfl (hz.1 e);rw [decide_eq_true (by omega)]
theorem Lg.abs {z:Int} {s:Bool} {l:List Nat} (h:Lg z s l):vl l=z.natAbs:=by
 have a:=h.val;cases s <;> simp only [Bool.false_eq_true,if_false,if_true] at a <;> omega
theorem Lg.N6 {z:Int} {s:Bool} {l:List Nat} (h:Lg z s l):l = []↔z=0:=by
 rw [← jj h.last,h.abs]; omega
theorem Lg.M0 {z:Int} {s:Bool} {l:List Nat} (h:Lg z s l) (hz:z≠0) (hb:z.natAbs<18446744073709551616):l = [z.natAbs]:=by
 have hl:l≠[]:=fun e=>hz (h.N6.1 e);exact DY h.wd (Wd.one hb) h.last (fun d hd=>by simp at hd; omega) (by rw [h.abs]; simp [vl])
end Go.Proofs.YtookeaakpiefjaaGreatDoor
end

section
namespace Go.Proofs.YtookeaakpiefjaaGreatDoor
open Go Go.Ab Go.Ab.W
theorem gI {n:Nat} (s:Bool) {l:List Nat} (hl:Wd l) (hb:l.length<4611686018427387904) (hn:l.length<n) :
  ∃ t k,mc n s l=some (t,k)∧Lg (vk s (vl l)) t k:=by
 have hL:∀ i m,i≤l.length→i<m→vl (l.drop i)=0→∃ j,bH (ly n l) m ((i:Nat):Int)=some ((j:Nat):Int)∧j≤l.length∧vl (l.drop j)=0∧∀ d,(l.take j).getLast? = some d→d≠0:=by
  intro i
  induction i with
  | zero =>
   intro m _ hm h0;obtain ⟨m,rfl⟩:∃ m',m=m'+1:=⟨m-1,by omega⟩
   refine ⟨0,aZ ?_,Nat.zero_le _,h0,fun d hd=>by simp at hd⟩
   unfold ly;rw [aU (by decide)]; rfl
  | succ i ih =>
   intro m hi hm h0;obtain ⟨m,rfl⟩:∃ m',m=m'+1:=⟨m-1,by omega⟩
   have hi':i<l.length:=hi;have e0:IntKind.wrap .i64 (((i+1:Nat):Int)-1)=((i:Nat):Int):=by rw [aK (by omega) (by omega)]; omega
   have e1:l[((i:Nat):Int).toNat]? = some l[i]:=by simp [hi']
   have e2:l[i]? = some l[i]:=by simp [hi']
   by_cases hz:l[i]=0
   ·have:ly n l ((i+1:Nat):Int)=some (.inl ((i:Nat):Int)):=by
     unfold ly;rw [aP (by omega),e0,aF hi',aR,e1,ah,ah,aP hz]
    rw [aY this];exact ih m (Nat.le_of_lt hi') (by omega) (by rw [kK e2,hz,h0])
   ·refine ⟨i+1,aZ ?_,hi,h0,fun d hd=>?_⟩
    ·unfold ly;rw [aP (by omega),e0,aF hi',aR,e1,ah,ah,aU hz]
    ·rw [List.getLast?_eq_getElem?,List.length_take,Nat.min_eq_left hi,Nat.add_sub_cancel,List.getElem?_take_of_lt (Nat.lt_succ_self i),e2] at hd;cases hd;exact hz
 obtain ⟨j,h1,h2,h3,h4⟩:=hL l.length n (Nat.le_refl _) hn (by rw [List.drop_length]; rfl)
 have hv:vl l=vl (l.take j):=by rw [eA l j h2,h3]; omega
 have hk:okB 0 ((j:Nat):Int) l.length=true:=decide_eq_true ⟨by omega,by omega,by omega⟩
 have ht:(l.drop (0:Int).toNat).take (((j:Nat):Int).toNat-(0:Int).toNat)=l.take j:=by simp
 have hz:=jj h4;unfold mc;rw [h1,ah];cases s with
 | false =>
  refine ⟨false,l.take j,?_,hl.take j,h4,?_,fun h=>nomatch h⟩
  ·rw [cF,hk,aR,ht]
  ·rw [hv]; rfl
 | true =>
  refine ⟨decide (0<((j:Nat):Int)),l.take j,?_,hl.take j,h4,?_,fun h e=>?_⟩
  ·rw [cd,hk,aR,ht]
  ·rw [hv]
   by_cases hj:0<((j:Nat):Int)
   ·rw [decide_eq_true hj]; rfl
   ·have:j=0:=by omega
    subst this
    rfl
  ·have h5:=of_decide_eq_true h;have:=congrArg List.length e;rw [List.length_take,Nat.min_eq_left h2] at this;simp at this;omega
theorem rO (l:List Nat) (i:Nat):∃ y,vl (l.drop i)=y+18446744073709551616*vl (l.drop (i+1))∧(Wd l→y<18446744073709551616) ∧
  (br (decide (((i:Nat):Int)<(l.length:Int))) (gd (bD ((i:Nat):Int) l.length) (ob (l[((i:Nat):Int).toNat]?) fun x=>some x)) (some 0))=some y:=by
 by_cases h:i<l.length
 ·have e2:l[i]? = some l[i]:=by simp [h]
  exact ⟨l[i],kK e2,fun w=>w.at e2,by rw [aP (by omega),aF h,aR,Int.toNat_natCast,e2]; rfl⟩
 ·refine ⟨0,?_,fun _=>by decide,by rw [aU (by omega)]⟩
  rw [List.drop_eq_nil_of_le (by omega),List.drop_eq_nil_of_le (by omega)]; rfl
theorem wH {a:List Nat} {k e d:Nat}:(a++e::List.replicate k 0).set a.length d=(a++[d])++List.replicate k 0:=by
 rw [List.set_append_right _ _ (Nat.le_refl _),Nat.sub_self,List.set_cons_zero,List.append_assoc]; rfl
theorem oK (a:List Nat) (d:Nat):vl (a++[d])=vl a+wp a.length*d:=by rw [xQ,e7,jO]; rfl
theorem Hq {n:Nat} {l k:List Nat} (hl:Wd l) (hk:Wd k) (hb:l.length<1073741824) (hb':k.length<1073741824) (hn:l.length<n) (hn':k.length<n) :
  ∃ r,Dh n l k=some r∧Wd r∧vl r=vl l+vl k∧r.length≤l.length+k.length+1:=by
 have key:∀ a b:List Nat,Wd a→Wd b→a.length<1073741824→b.length≤a.length→a.length<n→∃ r,(gd (decide (0≤IntKind.wrap .i64 ((a.length:Int)+1))) (gd (iB ((IntKind.wrap .i64 ((a.length:Int)+1)).toNat)) (
   ob (bH (k6 n a b) n ((List.replicate (IntKind.wrap .i64 ((a.length:Int)+1)).toNat (0:Nat)),(IntKind.wrap .i64 ((a.length:Int)+1)).toNat,0,0)) fun (l95,n97,v98) =>
   gd (bD (a.length:Int) n97) (ob (l95[(a.length:Int).toNat]?) fun x166=>some (l95.set ((a.length:Int).toNat) v98)))))=some r∧Wd r∧vl r=vl a+vl b∧r.length=a.length+1:=by
  intro a b ha hb0 hba hab hna;have w1:IntKind.wrap .i64 ((a.length:Int)+1)=((a.length+1:Nat):Int):=by rw [aK (by omega) (by omega)]; rfl
  have hL:∀ j i m p c,i+j=a.length→j<m→p.length=i→Wd p→c≤1→vl p+wp i*(c+vl (a.drop i)+vl (b.drop i))=vl a+vl b →
    ∃ q c',bH (k6 n a b) m (p++List.replicate (j+1) 0,a.length+1,c,((i:Nat):Int))=some (q++[0],a.length+1,c')∧q.length=a.length∧Wd q∧c'≤1∧vl q+wp a.length*c'=vl a+vl b:=by
   intro j
   induction j with
   | zero =>
    intro i m p c hij hm hp wp' hc hv;obtain ⟨m,rfl⟩:∃ m',m=m'+1:=⟨m-1,by omega⟩
    have hi:i=a.length:=by omega
    refine ⟨p,c,aZ ?_,by omega,wp',hc,?_⟩
    ·unfold k6
     dsimp only
     rw [aU (by omega)]; rfl
    ·subst hi;rw [List.drop_length,List.drop_eq_nil_of_le (by omega),jO] at hv
     simpa using hv
   | succ j ih =>
    intro i m p c hij hm hp wp' hc hv;obtain ⟨m,rfl⟩:∃ m',m=m'+1:=⟨m-1,by omega⟩
    have hi:i<a.length:=by omega
    obtain ⟨x,e2⟩:∃ x,a[i]? = some x:=⟨a[i],by simp [hi]⟩
    have hx:=ha.at e2;obtain ⟨y,y1,y2,y3⟩:=rO b i;have y2:=y2 hb0;have e3:(p++List.replicate (j+1+1) 0)[((i:Nat):Int).toNat]? = some 0:=by
     rw [Int.toNat_natCast,List.getElem?_append_right (by omega),List.getElem?_replicate]; simp; omega
    have st:k6 n a b (p++List.replicate (j+1+1) 0,a.length+1,c,((i:Nat):Int))=some (.inl ((p++[(x+y+c)%18446744073709551616])++List.replicate (j+1) 0,a.length+1,(x+y+c)/18446744073709551616,((i+1:Nat):Int))):=by
     unfold k6
     dsimp only
     rw [aP (by omega),aF hi,aR,Int.toNat_natCast,e2,ah]
     rw [Int.toNat_natCast] at y3 e3;rw [y3,ah];unfold A8;rw [cy hc,ah]
     dsimp only
     rw [aF (show i<a.length+1 by omega),aR,e3,ah,bf (by omega),← hp,List.replicate_succ,wH]
    rw [aY st];refine ih (i+1) m _ _ (by omega) (by omega) (by rw [List.length_append,hp]; rfl) (wp'.app (Wd.one (Nat.mod_lt _ (by decide)))) (by omega) ?_
    rw [← hv,oK,hp,gO,kK e2,y1];have h1:∀ s:Nat,s=s%18446744073709551616+18446744073709551616*(s/18446744073709551616):=fun s=>(Nat.mod_add_div s _).symm;have h2:=h1 (x+y+c);generalize (x+y+c)%18446744073709551616=lo at h2 ⊢;generalize (x+y+c)/18446744073709551616=hi' at h2 ⊢;have h3:c+(x+18446744073709551616*vl (a.drop (i+1)))+(y+18446744073709551616*vl (b.drop (i+1)))=lo+18446744073709551616*(hi'+vl (a.drop (i+1))+vl (b.drop (i+1))):=by omega
    rw [h3,Nat.mul_add (wp i),Nat.mul_left_comm (wp i),← Nat.mul_assoc,Nat.add_assoc,Nat.add_assoc]
  obtain ⟨q,c',h1,h2,h3,h4,h5⟩:=hL a.length 0 n [] 0 (by omega) hna rfl Wd.nil (by omega) (by simp [vl,wp])
  refine ⟨q++[c'],?_,h3.app (Wd.one (by omega)),by rw [oK,h2,h5],by rw [List.length_append,h2]; rfl⟩
  rw [w1,cy (by omega)]
  have hlim:iB ((a.length+1:Nat):Int).toNat=true:=fp (by omega)
  rw [hlim,aR,Int.toNat_natCast];rw [show (List.replicate (a.length+1) (0:Nat),a.length+1,(0:Nat),(0:Int))=(([]:List Nat)++List.replicate (a.length+1) 0,a.length+1,0,((0:Nat):Int)) from rfl,h1,ah]
  dsimp only
  rw [aF (Nat.lt_succ_self _),aR,Int.toNat_natCast,← h2,List.getElem?_append_right (Nat.le_refl _),Nat.sub_self];rw [show ([0]:List Nat)[0]? = some 0 from rfl,ah,List.set_append_right _ _ (Nat.le_refl _),Nat.sub_self]
  rfl
 unfold Dh
 by_cases h:l.length<k.length
 ·rw [aP (by omega),ah]
  obtain ⟨r,h1,h2,h3,h4⟩:=key k l hk hl hb' (Nat.le_of_lt h) hn';exact ⟨r,h1,h2,by omega,by omega⟩
 ·rw [aU (by omega),ah]
  obtain ⟨r,h1,h2,h3,h4⟩:=key l k hl hk hb (by omega) hn
  exact ⟨r,h1,h2,h3,by omega⟩
end Go.Proofs.YtookeaakpiefjaaGreatDoor
end

section
namespace Go.Proofs.YtookeaakpiefjaaGreatDoor
open Go Go.Ab Go.Ab.W
theorem GF {n:Nat} {l k:List Nat} (hl:Wd l) (hk:Wd k) (ll:∀ d,l.getLast? = some d→d≠0) (lk:∀ d,k.getLast? = some d→d≠0) (hb:l.length<1073741824) (hb':k.length<1073741824) (hn:l.length<n) :
  ∃ r:Int,B6 n l k=some r∧(r<0↔vl l<vl k)∧(0<r↔vl k<vl l):=by
 have big:∀ a b:List Nat,Wd a→(∀ d,b.getLast? = some d→d≠0)→a.length<b.length→vl a<vl b:=by
  intro a b ha hb h;have h1:=sh ha;have h2:=tX hb (by intro e; rw [e] at h; exact Nat.not_lt_zero _ h)
  have h3:wp a.length≤wp (b.length-1):=Nat.pow_le_pow_right (by decide) (by omega)
  omega
 unfold B6
 by_cases h:l.length=k.length
 ·rw [decide_eq_true (show (l.length:Int)=(k.length:Int) by omega),Bool.not_true,cF]
  have hL:∀ i m,i≤l.length→i<m→vl (l.drop i)=vl (k.drop i)→∃ r,bH (jV n l k) m ((i:Int)-1)=some r ∧
    ((r = .inl (-1)∧vl l<vl k)∨(r = .inl 1∧vl k<vl l)∨(r = .inr ()∧vl l=vl k)):=by
   intro i
   induction i with
   | zero =>
    intro m _ hm h0;obtain ⟨m,rfl⟩:∃ m',m=m'+1:=⟨m-1,by omega⟩
    refine ⟨.inr (),aZ ?_,.inr (.inr ⟨rfl,by simpa using h0⟩)⟩
    unfold jV;rw [aU (by decide)]
   | succ i ih =>
    intro m hi hm h0;obtain ⟨m,rfl⟩:∃ m',m=m'+1:=⟨m-1,by omega⟩
    obtain ⟨x,e2⟩:∃ x,l[i]? = some x:=⟨l[i],by simp⟩
    obtain ⟨y,e3⟩:∃ y,k[i]? = some y:=⟨k[i],by simp⟩
    have a1:=kK e2;have a2:=kK e3;have a3:=eA l i (by omega)
    have a4:=eA k i (by omega)
    have t1:=sh (hl.take i);have t2:=sh (hk.take i);rw [List.length_take,Nat.min_eq_left (by omega)] at t1 t2
    have e0:((i+1:Nat):Int)-1=((i:Nat):Int):=by omega
    rw [e0];rcases Nat.lt_trichotomy x y with hxy | hxy | hxy
    ·refine ⟨.inl (-1),aZ ?_,.inl ⟨rfl,?_⟩⟩
     ·unfold jV;rw [aP (by omega),aF (by omega),aR,Int.toNat_natCast,e2,ah,aF (by omega),aR,e3,ah,aP hxy]
     ·have:wp i*(vl (l.drop i)+1)≤wp i*vl (k.drop i):=Nat.mul_le_mul_left _ (by omega)
      rw [Nat.mul_add] at this;omega
    ·have st:jV n l k ((i:Nat):Int)=some (.inl (((i:Nat):Int)-1)):=by
      unfold jV;rw [aP (by omega),aF (by omega),aR,Int.toNat_natCast,e2,ah,aF (by omega),aR,e3,ah,aU (by omega),aR,aR,aU (by omega),aK (by omega) (by omega)]
     rw [aY st];exact ih m (by omega) (by omega) (by omega)
    ·refine ⟨.inl 1,aZ ?_,.inr (.inl ⟨rfl,?_⟩)⟩
     ·unfold jV;rw [aP (by omega),aF (by omega),aR,Int.toNat_natCast,e2,ah,aF (by omega),aR,e3,ah,aU (by omega),aR,aR,aP hxy]
     ·have:wp i*(vl (k.drop i)+1)≤wp i*vl (l.drop i):=Nat.mul_le_mul_left _ (by omega)
      rw [Nat.mul_add] at this;omega
  obtain ⟨r,h1,h2⟩:=hL l.length n (Nat.le_refl _) hn (by rw [List.drop_length,h,List.drop_length])
  rw [aK (by omega) (by omega),h1,ah]
  rcases h2 with ⟨rfl,h2⟩ | ⟨rfl,h2⟩ | ⟨rfl,h2⟩
  ·exact ⟨-1,rfl,by omega,by omega⟩
  ·exact ⟨1,rfl,by omega,by omega⟩
  ·exact ⟨0,rfl,by omega,by omega⟩
 ·rw [decide_eq_false (show ¬ (l.length:Int)=(k.length:Int) by omega),Bool.not_false,cd]
  refine ⟨_,rfl,?_,?_⟩ <;> rw [aK (by omega) (by omega)]
  ·refine ⟨fun h1=>big l k hl lk (by omega),fun h1=>?_⟩
   by_cases h2:l.length<k.length
   ·omega
   ·have:=big k l hk ll (by omega); omega
  ·refine ⟨fun h1=>big k l hk ll (by omega),fun h1=>?_⟩
   by_cases h2:k.length<l.length
   ·omega
   ·have:=big l k hl lk (by omega); omega
theorem zI {n:Nat} {l k:List Nat} (hl:Wd l) (hk:Wd k) (hle:vl k≤vl l) (hlk:k.length≤l.length) (hb:l.length<1073741824) (hn:l.length<n) :
  ∃ r,BA n l k=some r∧Wd r∧vl r=vl l-vl k∧r.length=l.length:=by
 have hL:∀ j i m p c,i+j=l.length→j<m→p.length=i→Wd p→c≤1→vl p+wp i*vl (l.drop i)+vl k=vl l+wp i*(c+vl (k.drop i)) →
   ∃ q c',bH (nh n l k) m (p++List.replicate j 0,c,((i:Nat):Int))=some q∧q.length=l.length∧Wd q∧c'≤1∧vl q+vl k=vl l+wp l.length*c':=by
  intro j
  induction j with
  | zero =>
   intro i m p c hij hm hp wp' hc hv;obtain ⟨m,rfl⟩:∃ m',m=m'+1:=⟨m-1,by omega⟩
   have hi:i=l.length:=by omega
   refine ⟨p,c,aZ ?_,by omega,wp',hc,?_⟩
   ·unfold nh
    dsimp only
    rw [aU (by omega),List.replicate_zero,List.append_nil]
   ·subst hi;rw [List.drop_length,List.drop_eq_nil_of_le (by omega),jO] at hv
    simpa using hv
  | succ j ih =>
   intro i m p c hij hm hp wp' hc hv;obtain ⟨m,rfl⟩:∃ m',m=m'+1:=⟨m-1,by omega⟩
   have hi:i<l.length:=by omega
   obtain ⟨x,e2⟩:∃ x,l[i]? = some x:=⟨l[i],by simp [hi]⟩
   have hx:=hl.at e2;obtain ⟨y,y1,y2,y3⟩:=rO k i;have y2:=y2 hk;have e3:(p++List.replicate (j+1) 0)[((i:Nat):Int).toNat]? = some 0:=by
    rw [Int.toNat_natCast,List.getElem?_append_right (by omega),List.getElem?_replicate]; simp; omega
   have st:nh n l k (p++List.replicate (j+1) 0,c,((i:Nat):Int))=some (.inl ((p++[(x+18446744073709551616-y-c)%18446744073709551616])++List.replicate j 0,if x<y+c then 1 else 0,((i+1:Nat):Int))):=by
    unfold nh
    dsimp only
    rw [aP (by omega),aF hi,aR,Int.toNat_natCast,e2,ah]
    rw [Int.toNat_natCast] at y3 e3;rw [y3,ah];unfold H7;rw [cy hc,ah]
    dsimp only
    rw [Int.toNat_natCast,aF hi,aR,e3,ah,bf (by omega),← hp,List.replicate_succ,wH]
   rw [aY st];refine ih (i+1) m _ _ (by omega) (by omega) (by rw [List.length_append,hp]; rfl) (wp'.app (Wd.one (Nat.mod_lt _ (by decide)))) (by split <;> omega) ?_
   rw [kK e2,y1] at hv;rw [oK,hp,gO];have h2:(x+18446744073709551616-y-c)%18446744073709551616+y+c=x+18446744073709551616*(if x<y+c then 1 else 0):=by split <;> omega
   generalize (x+18446744073709551616-y-c)%18446744073709551616=lo at h2 ⊢;generalize (if x<y+c then 1 else 0)=hi' at h2 ⊢
   generalize vl (l.drop (i+1))=A at hv ⊢;generalize vl (k.drop (i+1))=D at hv ⊢;have h3:wp i*(lo+y+c)=wp i*(x+18446744073709551616*hi'):=by rw [h2]
   simp only [Nat.mul_add,Nat.mul_left_comm (wp i) 18446744073709551616,Nat.mul_assoc] at hv h3 ⊢;omega
 obtain ⟨q,c',h1,h2,h3,h4,h5⟩:=hL l.length 0 n [] 0 (by omega) hn rfl Wd.nil (by omega) (by simp [vl,wp])
 refine ⟨q,?_,h3,?_,h2⟩
 ·unfold BA;rw [cy (by omega),Int.toNat_natCast,fp (by omega),aR]
  rw [show (List.replicate l.length (0:Nat),(0:Nat),(0:Int))=(([]:List Nat)++List.replicate l.length 0,0,((0:Nat):Int)) from rfl,h1,ah]
 ·have h6:=sh h3;rw [h2] at h6;have:c'=0:=by
   rcases Nat.le_one_iff_eq_zero_or_eq_one.1 h4 with e | e
   ·exact e
   ·rw [e] at h5; omega
  rw [this] at h5;omega
theorem u7 (s:Bool):vk s 0=0:=by cases s <;> rfl
theorem A1 {n:Nat} {a b:Int} {s t:Bool} {l k:List Nat} (h:Lg a s l) (h':Lg b t k) (hb:l.length<1000000) (hb':k.length<1000000) (hn:l.length+k.length+1<n) :
  ∃ u m,oj n s l t k=some (u,m)∧Lg (a+b) u m:=by
 have av:=h.val;have bv:=h'.val;unfold oj
 by_cases e:s=t
 ·subst e;rw [beq_self_eq_true,cd];obtain ⟨r,r1,r2,r3,r4⟩:=Hq (n:=n) h.wd h'.wd (by omega) (by omega) (by omega) (by omega)
  obtain ⟨u,m,m1,m2⟩:=gI (n:=n) s r2 (by omega) (by omega)
  refine ⟨u,m,by rw [r1,ah,m1]; rfl,?_⟩
  have:a+b=vk s (vl r):=by rw [av,bv,r3]; unfold vk; cases s <;> simp <;> omega
  rw [this]; exact m2
 ·have:(s == t)=false:=by cases s <;> cases t <;> simp_all
  rw [this,cF];obtain ⟨r,r1,r2,r3⟩:=GF (n:=n) h.wd h'.wd h.last h'.last (by omega) (by omega) (by omega)
  have ht:t = !s:=by cases s <;> cases t <;> simp_all
  have longer:∀ p q:List Nat,Wd p→Wd q→(∀ d,p.getLast? = some d→d≠0)→(∀ d,q.getLast? = some d→d≠0)→vl p≤vl q→p.length≤q.length:=by
   intro p q wp1 wq1 lp lq hle;refine Nat.le_of_not_lt fun hlt=>?_;have h1:=sh wq1;have h2:=tX lp (by intro e; rw [e] at hlt; exact Nat.not_lt_zero _ hlt)
   have h3:wp q.length≤wp (p.length-1):=Nat.pow_le_pow_right (by decide) (by omega)
   omega
  rw [r1,ah]
  by_cases hr:r<0
  ·have hv:=r2.1 hr;obtain ⟨m,m1,m2,m3,m4⟩:=zI (n:=n) h'.wd h.wd (Nat.le_of_lt hv) (longer _ _ h.wd h'.wd h.last h'.last (Nat.le_of_lt hv)) (by omega) (by omega)
   obtain ⟨u,m',u1,u2⟩:=gI (n:=n) t m2 (by omega) (by omega)
   refine ⟨u,m',by rw [aP hr,ah]; dsimp only; rw [m1,ah,u1]; rfl,?_⟩
   have:a+b=vk t (vl m):=by rw [av,bv,m3,ht]; unfold vk; cases s <;> simp <;> omega
   rw [this]; exact u2
  ·have hv:vl k≤vl l:=Nat.le_of_not_lt fun h=>hr (r2.2 h);obtain ⟨m,m1,m2,m3,m4⟩:=zI (n:=n) h.wd h'.wd hv (longer _ _ h'.wd h.wd h'.last h.last hv) (by omega) (by omega)
   obtain ⟨u,m',u1,u2⟩:=gI (n:=n) s m2 (by omega) (by omega)
   refine ⟨u,m',by rw [aU hr,ah]; dsimp only; rw [m1,ah,u1]; rfl,?_⟩
   have:a+b=vk s (vl m):=by rw [av,bv,m3,ht]; unfold vk; cases s <;> simp <;> omega
   rw [this]; exact u2
theorem GM {n:Nat} {a:Int} {s:Bool} {l:List Nat} (h:Lg a s l) (hb:l.length<1000000) (hn:l.length<n):∃ u m,yA n s l=some (u,m)∧Lg (-a) u m:=by
 obtain ⟨u,m,m1,m2⟩:=gI (n:=n) (!s) h.wd (by omega) hn
 refine ⟨u,m,by unfold yA; rw [m1]; rfl,?_⟩
 have : -a=vk (!s) (vl l):=by rw [h.val]; unfold vk; cases s <;> simp
 rw [this]; exact m2
theorem Lg.len {a:Int} {s:Bool} {l:List Nat} (h:Lg a s l) {k:Nat} (hk:a.natAbs<wp k):l.length≤k:=by
 refine Nat.le_of_not_lt fun hlt=>?_;have h2:=tX h.last (by intro e; rw [e] at hlt; exact Nat.not_lt_zero _ hlt)
 have h3:wp k≤wp (l.length-1):=Nat.pow_le_pow_right (by decide) (by omega)
 have:=h.abs;omega
theorem Lg.up {a:Int} {s:Bool} {l:List Nat} (h:Lg a s l):a.natAbs<wp l.length:=by
 rw [← h.abs]; exact sh h.wd
theorem KM {n:Nat} {a b:Int} {s t:Bool} {l k:List Nat} (h:Lg a s l) (h':Lg b t k) (hb:l.length<1000000) (hb':k.length<1000000) (hn:l.length+k.length+1<n) :
  ∃ u m,MO n s l t k=some (u,m)∧Lg (a-b) u m:=by
 obtain ⟨u,m,m1,m2⟩:=GM (n:=n) h' hb' (by omega)
 have hm:m.length≤k.length:=m2.len (by rw [Int.natAbs_neg]; exact h'.up)
 obtain ⟨v,q,q1,q2⟩:=A1 (n:=n) h m2 hb (by omega) (by omega)
 exact ⟨v,q,by unfold MO; rw [m1,ah]; dsimp only; rw [q1]; rfl,q2⟩
theorem Dc {n:Nat} {a:Int} {s:Bool} {l:List Nat} (h:Lg a s l):∃ r,Le n s l=some r∧(r<0↔a<0)∧(r=0↔a=0):=by
 have h1:=h.BY;have h2:=h.N6;unfold Le;cases s with
 | true =>
  have:=of_decide_eq_true h1.symm;exact ⟨-1,rfl,by omega,by omega⟩
 | false =>
  have:=of_decide_eq_false h1.symm;rw [cF]
  by_cases hl:l = []
  ·subst hl;have:=h2.1 rfl;exact ⟨0,rfl,by omega,by omega⟩
  ·have:¬ a=0:=fun e=>hl (h2.2 e);have:¬ (l.length:Int)=0:=fun e=>hl (List.eq_nil_of_length_eq_zero (by omega))
   rw [aU this];exact ⟨1,rfl,by omega,by omega⟩
end Go.Proofs.YtookeaakpiefjaaGreatDoor
end

section
namespace Go.Proofs.YtookeaakpiefjaaGreatDoor
open Go Go.Ab Go.Ab.W
theorem wq {a:Nat} (ha:a<18446744073709551616):uw .u64 (uw .u64 a &&& uw .u64 4294967295)=a%4294967296:=by
 rw [w5 ha (by decide)]
 exact Nat.and_two_pow_sub_one_eq_mod a 32
theorem CK (a:Nat):cx .u64 a 32=a/4294967296:=rfl
theorem np {a:Nat} (h:a<18446744073709551616):uw .u64 a=a:=Nat.mod_eq_of_lt h
theorem HS (n:Nat) {x y:Nat} (hx:x<18446744073709551616) (hy:y<18446744073709551616):E9 n x y=some (x*y/18446744073709551616,x*y%18446744073709551616):=by
 obtain ⟨b1,b2,b3,hhi⟩:=Lib.mul64_hi x y hx hy;have ba:=Lib.half_mul_le (a:=x/4294967296) (b:=y/4294967296) (by omega) (by omega)
 have bb:=Lib.half_mul_le (a:=x/4294967296) (b:=y%4294967296) (by omega) (by omega)
 have bc:=Lib.half_mul_le (a:=x%4294967296) (b:=y/4294967296) (by omega) (by omega)
 unfold E9;simp only [wq hx,wq hy,CK,ah];rw [np b1,np (a:=x/4294967296*(y%4294967296)) (by omega)]
 rw [np b2,wq b2,np (a:=x%4294967296*(y/4294967296)) (by omega),np b3,np (a:=x/4294967296*(y/4294967296)) (by omega)]
 rw [np (a:=x/4294967296*(y/4294967296)+_) (by omega),np (by omega),hhi]
 rfl
theorem HY {n:Nat} {k:List Nat} (hk:Wd k) {x i N:Nat} (hx:x<18446744073709551616) (hN:i+k.length<N) (hNb:N<4611686018427387904) {b:List Nat} (hb:Wd b) (hbN:b.length=N) :
  ∀ r j m cur c,j+r=k.length→r<m→Wd cur→cur.length=N→c<18446744073709551616→(∀ p,i+k.length≤p→cur[p]? = b[p]?) →
   vl cur+wp (i+j)*c+wp (i+j)*(x*vl (k.drop j))=vl b+wp i*(x*vl k) →
   ∃ q c',bH (nq n k x (i:Int) N) m (cur,c,((j:Nat):Int))=some (q,c')∧Wd q∧q.length=N∧c'<18446744073709551616∧(∀ p,i+k.length≤p→q[p]? = b[p]?)∧vl q+wp (i+k.length)*c'=vl b+wp i*(x*vl k):=by
 intro r
 induction r with
 | zero =>
  intro j m cur c hj hm hw hl hc hp hv;obtain ⟨m,rfl⟩:∃ m',m=m'+1:=⟨m-1,by omega⟩
  have hj':j=k.length:=by omega
  refine ⟨cur,c,aZ ?_,hw,hl,hc,hp,?_⟩
  ·unfold nq
   dsimp only
   rw [aU (by omega)]
  ·rw [← hv,hj',List.drop_length,jO]; omega
 | succ r ih =>
  intro j m cur c hj hm hw hl hc hp hv;obtain ⟨m,rfl⟩:∃ m',m=m'+1:=⟨m-1,by omega⟩
  have hi:j<k.length:=by omega
  obtain ⟨y,e2⟩:∃ y,k[j]? = some y:=⟨k[j],by simp [hi]⟩
  have hy:=hk.at e2;obtain ⟨d,e3⟩:∃ d,cur[i+j]? = some d:=⟨cur[i+j]'(by omega),by simp⟩
  have hd:=hw.at e3;have hxy:x*y≤18446744073709551615*18446744073709551615:=Nat.mul_le_mul (by omega) (by omega)
  have w1:IntKind.wrap .i64 ((i:Int)+((j:Nat):Int))=((i+j:Nat):Int):=by rw [aK (by omega) (by omega)]; omega
  have st:nq n k x (i:Int) N (cur,c,((j:Nat):Int))=some (.inl (cur.set (i+j) ((x*y+d+c)%18446744073709551616),(x*y+d+c)/18446744073709551616,((j+1:Nat):Int))):=by
   unfold nq
   dsimp only
   rw [aP (by omega),aF hi,aR,Int.toNat_natCast,e2,ah,HS n hx hy,ah]
   dsimp only
   rw [w1,aF (by omega),aR,Int.toNat_natCast,e3,ah]
   unfold A8;rw [cy (by omega),ah]
   dsimp only
   rw [cy (by omega),ah]
   dsimp only
   rw [aR,bf (by omega),np (a:=x*y/18446744073709551616+_) (by omega),np (by omega)]
   congr 3
   ·congr 1; omega
   ·congr 1; omega
  rw [aY st];refine ih (j+1) m _ _ (by omega) (by omega) (hw.set (Nat.mod_lt _ (by decide))) (by rw [List.length_set]; exact hl) (by omega) (fun p hp'=>by rw [List.getElem?_set_ne (by omega)]; exact hp p hp') ?_
  rw [kK e2] at hv;have hs:=DO ((x*y+d+c)%18446744073709551616) e3;rw [← hv,← Nat.add_assoc i j 1,gO];have h2:(x*y+d+c)%18446744073709551616+18446744073709551616*((x*y+d+c)/18446744073709551616)=x*y+d+c:=Nat.mod_add_div _ _;generalize (x*y+d+c)%18446744073709551616=lo at h2 hs ⊢;generalize (x*y+d+c)/18446744073709551616=hi' at h2 ⊢;generalize vl (k.drop (j+1))=A at hv ⊢;generalize vl (cur.set (i+j) lo)=Z at hs ⊢;have h3:wp (i+j)*(lo+18446744073709551616*hi')=wp (i+j)*(x*y+d+c):=by rw [h2]
  simp only [Nat.mul_add,Nat.mul_left_comm (wp (i+j)) 18446744073709551616,Nat.mul_left_comm x 18446744073709551616,Nat.mul_assoc] at hs h3 ⊢;omega
theorem HN {n:Nat} {l k:List Nat} (hl:Wd l) (hk:Wd k) (hb:l.length<500000000) (hb':k.length<500000000) (hn:l.length<n) (hn':k.length<n) :
  ∃ r,EG n l k=some r∧Wd r∧vl r=vl l*vl k∧r.length=l.length+k.length:=by
 have hL:∀ r i m b,i+r=l.length→r<m→Wd b→b.length=l.length+k.length→(∀ p,i+k.length≤p→p<l.length+k.length→b[p]? = some 0) →
   vl b+wp i*(vl (l.drop i)*vl k)=vl l*vl k →
   ∃ q,bH (mN n l k) m (b,l.length+k.length,((i:Nat):Int))=some (q,l.length+k.length)∧Wd q∧q.length=l.length+k.length∧vl q=vl l*vl k:=by
  intro r
  induction r with
  | zero =>
   intro i m b hi hm hw hlen _ hv;obtain ⟨m,rfl⟩:∃ m',m=m'+1:=⟨m-1,by omega⟩
   have hi':i=l.length:=by omega
   refine ⟨b,aZ ?_,hw,hlen,?_⟩
   ·unfold mN
    dsimp only
    rw [aU (by omega)]
   ·rw [← hv,hi',List.drop_length,jO]; simp
  | succ r ih =>
   intro i m b hi hm hw hlen hz hv;obtain ⟨m,rfl⟩:∃ m',m=m'+1:=⟨m-1,by omega⟩
   have hi':i<l.length:=by omega
   obtain ⟨x,e2⟩:∃ x,l[i]? = some x:=⟨l[i],by simp⟩
   have hx:=hl.at e2;obtain ⟨q,c,q1,q2,q3,q4,q5,q6⟩:=HY (n:=n) (i:=i) hk hx (N:=l.length+k.length) (by omega) (by omega) hw hlen k.length 0 n b 0 (by omega) hn' hw hlen (by decide) (fun _ _=>rfl) (by simp)
   have e3:q[i+k.length]? = some 0:=by rw [q5 _ (Nat.le_refl _)]; exact hz _ (Nat.le_refl _) (by omega)
   have w1:IntKind.wrap .i64 ((i:Int)+(k.length:Int))=((i+k.length:Nat):Int):=by rw [aK (by omega) (by omega)]; omega
   have st:mN n l k (b,l.length+k.length,((i:Nat):Int))=some (.inl (q.set (i+k.length) c,l.length+k.length,((i+1:Nat):Int))):=by
    unfold mN
    dsimp only
    rw [aP (by omega),aF hi',aR,Int.toNat_natCast,e2,ah]
    rw [show ((0:Int))=((0:Nat):Int) from rfl,q1,ah]
    dsimp only
    rw [w1,aF (by omega),aR,Int.toNat_natCast,e3,ah,bf (by omega)]
   rw [aY st];refine ih (i+1) m _ (by omega) (by omega) (q2.set q4) (by rw [List.length_set]; exact q3) (fun p h1 h2=>by rw [List.getElem?_set_ne (by omega),q5 p (by omega)]; exact hz p (by omega) h2) ?_
   have hs:=DO c e3;rw [kK e2] at hv;rw [← hv,gO];generalize vl (q.set (i+k.length) c)=Z at hs ⊢;generalize vl (l.drop (i+1))=A at hv ⊢;have h4:wp i*((x+18446744073709551616*A)*vl k)=wp i*(x*vl k)+18446744073709551616*wp i*(A*vl k):=by
    simp only [Nat.add_mul,Nat.mul_add,Nat.mul_assoc,Nat.mul_left_comm (wp i) 18446744073709551616]
   rw [h4];omega
 unfold EG;have w1:IntKind.wrap .i64 ((l.length:Int)+(k.length:Int))=((l.length+k.length:Nat):Int):=by rw [aK (by omega) (by omega)]; omega
 obtain ⟨q,q1,q2,q3,q4⟩:=hL l.length 0 n (List.replicate (l.length+k.length) 0) (by omega) hn (Wd.zeros _) (by simp) (fun p _ h2=>by rw [List.getElem?_replicate]; simp [h2]) (by rw [Fo,Iq]; simp)
 refine ⟨q,?_,q2,q4,q3⟩;rw [w1,cy (by omega),Int.toNat_natCast,fp (by omega),aR]
 rw [show ((0:Int))=((0:Nat):Int) from rfl,q1]
 rfl
theorem A4 {n:Nat} {a b:Int} {s t:Bool} {l k:List Nat} (h:Lg a s l) (h':Lg b t k) (hb:l.length<1000000) (hb':k.length<1000000) (hn:l.length+k.length<n) :
  ∃ u m,BT n s l t k=some (u,m)∧Lg (a*b) u m:=by
 obtain ⟨r,r1,r2,r3,r4⟩:=HN (n:=n) h.wd h'.wd (by omega) (by omega) (by omega) (by omega)
 obtain ⟨u,m,m1,m2⟩:=gI (n:=n) (!(s == t)) r2 (by omega) (by omega)
 refine ⟨u,m,by unfold BT; rw [r1,ah,m1]; rfl,?_⟩
 have:a*b=vk (!(s == t)) (vl r):=by
  rw [h.val,h'.val,r3]; unfold vk;cases s <;> cases t <;> simp [Int.neg_mul,Int.mul_neg]
 rw [this]; exact m2
end Go.Proofs.YtookeaakpiefjaaGreatDoor
end

section
namespace Go.Proofs.YtookeaakpiefjaaGreatDoor
open Go Go.Ab Go.Ab.W
theorem tj {a b:Nat} (ha:a<18446744073709551616) (h:b≤a):gz .u64 a b=a-b:=by
 show (a+(18446744073709551616-b%18446744073709551616))%18446744073709551616=a-b
 omega
theorem Cl (n0:Nat) {u y1 y0 d:Nat} (h1:2147483648≤y1) (h1':y1<4294967296) (h0:y0<4294967296) (hd:d<4294967296) {Q:Nat} (le_iff:∀ p,p≤Q↔p*y1*4294967296+p*y0≤u*4294967296+d) (hQb:Q<4294967296) :
  ∀ k r q m,4294967296≤r+k*2147483648→k<m→q*y1+r=u→Q≤q→q≤4294967297→r<4294967296→bH (ew n0 d y0 y1) m (r,q)=some Q:=by
 intro k
 induction k with
 | zero=>intro r q m hk _ _ _ _ hr; omega
 | succ k ih =>
  intro r q m hk hm hq hQ hqb hr;obtain ⟨m,rfl⟩:∃ m',m=m'+1:=⟨m-1,by omega⟩
  by_cases hT:4294967296≤q∨4294967296*r+d<q*y0
  ·have hlt:Q<q:=by
    rcases hT with hT | hT
    ·omega
    ·refine Nat.lt_of_not_le fun h=>?_;rw [le_iff] at h;omega
   obtain ⟨p,rfl⟩:∃ p,q=p+1:=⟨q-1,by omega⟩
   rw [Nat.add_mul,Nat.one_mul] at hq;have test:(br (decide (4294967296≤p+1)) (some true) (some (decide (uw .u64 ((uw .u64 (4294967296*r))+d)<uw .u64 ((p+1)*y0)))))=some true:=by
    by_cases hb:4294967296≤p+1
    ·rw [aP hb]
    ·have h2:(p+1)*y0≤4294967295*4294967295:=Nat.mul_le_mul (by omega) (by omega)
     rw [aU hb,np (a:=4294967296*r) (by omega),np (by omega),np (by omega),decide_eq_true (by omega)]
   have sb:gz .u64 (p+1) 1=p:=tj (by omega) (by omega)
   by_cases hb:4294967296≤r+y1
   ·have st:ew n0 d y0 y1 (r,p+1)=some (.inr p):=by
     unfold ew
     dsimp only
     rw [test,ah,cd,np (a:=r+y1) (by omega),aP hb,sb]
    rw [aZ st];have h2:p*y0≤4294967296*4294967295:=Nat.mul_le_mul (by omega) (by omega)
    have h3:p≤Q:=by rw [le_iff]; omega
    rw [show p=Q by omega]
   ·have st:ew n0 d y0 y1 (r,p+1)=some (.inl (r+y1,p)):=by
     unfold ew
     dsimp only
     rw [test,ah,cd,np (a:=r+y1) (by omega),aU hb,sb]
    rw [aY st];exact ih (r+y1) p m (by omega) (by omega) (by omega) (by omega) (by omega) (by omega)
  ·have hq2:q<4294967296:=by omega
   have h2:q*y0≤4294967295*4294967295:=Nat.mul_le_mul (by omega) (by omega)
   have st:ew n0 d y0 y1 (r,q)=some (.inr q):=by
    unfold ew
    dsimp only
    rw [aU (by omega),np (a:=4294967296*r) (by omega),np (by omega),np (by omega),ah,aU (by omega)]
   rw [aZ st];have h3:q≤Q:=by rw [le_iff]; omega
   rw [show q=Q by omega]
theorem BF (n0 y s y1 y0 d e:Nat):∀ m q r,bH (qD n0) m (y,s,y1,y0,d,e,q,r)=(bH (ew n0 d y0 y1) m (r,q)).map fun q=>(y,s,y1,y0,d,e,q):=by
 intro m
 induction m with
 | zero=>intro q r; rfl
 | succ m ih =>
  intro q r;have a:∀ b,(br b (br (decide (4294967296≤uw .u64 (r+y1))) (some (.inr (y,s,y1,y0,d,e,gz .u64 q 1))) (some (.inl (y,s,y1,y0,d,e,gz .u64 q 1,uw .u64 (r+y1))))) (some (.inr (y,s,y1,y0,d,e,q))):Option ((Nat × Nat × Nat × Nat × Nat × Nat × Nat × Nat) ⊕ (Nat × Nat × Nat × Nat × Nat × Nat × Nat))) =
   (br b (br (decide (4294967296≤uw .u64 (r+y1))) (some (.inr (gz .u64 q 1))) (some (.inl (uw .u64 (r+y1),gz .u64 q 1)))) (some (.inr q)):Option ((Nat × Nat) ⊕ Nat)).map fun x=>match x with | .inl (r,q)=>.inl (y,s,y1,y0,d,e,q,r) | .inr q=>.inr (y,s,y1,y0,d,e,q):=by
   intro b;cases b
   ·rfl
   ·rw [cd,cd];cases decide (4294967296≤uw .u64 (r+y1)) <;> rfl
  have st:qD n0 (y,s,y1,y0,d,e,q,r)=(ew n0 d y0 y1 (r,q)).map fun x=>match x with | .inl (r,q)=>.inl (y,s,y1,y0,d,e,q,r) | .inr q=>.inr (y,s,y1,y0,d,e,q):=by
   unfold qD ew
   dsimp only
   cases (br (decide (4294967296≤q)) (some true) (some (decide (uw .u64 ((uw .u64 (4294967296*r))+d)<uw .u64 (q*y0)))):Option Bool) with
   | none=>rfl
   | some b=>exact a b
  unfold bH;rw [st];cases ew n0 d y0 y1 (r,q) with
  | none=>rfl
  | some x =>
   cases x with
   | inl p=>exact ih p.2 p.1
   | inr p=>rfl
theorem rz {a b:Nat} (h:b≤a) (hr:a-b<18446744073709551616):gz .u64 (uw .u64 a) (uw .u64 b)=a-b:=by
 show (a%18446744073709551616+(18446744073709551616-b%18446744073709551616%18446744073709551616))%18446744073709551616=a-b
 omega
theorem JD {x:Nat} (h0:0<x):2 ^ (bl x-1)≤x∧x<2 ^ bl x∧0<bl x:=by
 have h1:0<bl x:=mA.2 (by simp; omega)
 refine ⟨mA.1 (by omega),?_,h1⟩
 exact Nat.lt_of_not_le fun h=>Nat.lt_irrefl _ (mA.2 h)
theorem o7 {a s:Nat} (h:s≤64):fJ .u64 a s=uw .u64 (a*2 ^ s):=by
 have:min s (IntKind.bits .u64)=s:=Nat.min_eq_left h;unfold fJ;rw [this]
theorem zB {a s:Nat} (h:s≤64):cx .u64 a s=a/2 ^ s:=by
 have:min s (IntKind.bits .u64)=s:=Nat.min_eq_left h;unfold cx;rw [this]
theorem zO {n:Nat} (hn:4<n) {u y1 y0 d:Nat} (h1:2147483648≤y1) (h1':y1<4294967296) (h0:y0<4294967296) (hd:d<4294967296) (hu:u<y1*4294967296+y0) :
  bH (ew n d y0 y1) n (gz .u64 u (uw .u64 (uw .u64 (u/y1)*y1)),uw .u64 (u/y1))=some ((u*4294967296+d)/(y1*4294967296+y0)):=by
 have e1:=Nat.div_add_mod u y1;have e2:=Nat.mod_lt u (show 0<y1 by omega)
 rw [Nat.mul_comm] at e1;have hq:u/y1≤4294967297:=by
  have:u/y1<4294967298:=by rw [Nat.div_lt_iff_lt_mul (by omega)]; omega
  omega
 rw [np (a:=u/y1) (by omega),np (a:=u/y1*y1) (by omega),tj (by omega) (by omega)]
 have hy:0<y1*4294967296+y0:=by omega
 refine Cl n h1 h1' h0 hd (fun p=>by rw [Nat.le_div_iff_mul_le hy,Nat.mul_add,← Nat.mul_assoc]) (by rw [Nat.div_lt_iff_lt_mul hy]; omega) 2 _ _ n (by omega) (by omega) (by omega) ?_ hq (by omega)
 have:(u*4294967296+d)/(y1*4294967296+y0)<u/y1+1:=by
  rw [Nat.div_lt_iff_lt_mul hy,Nat.add_mul,Nat.one_mul,Nat.mul_add,← Nat.mul_assoc];omega
 omega
theorem G8 {U w v A B R1 R0 d1 d0:Nat} (hU:U=w*4294967296) (h6:4294967296*d1+d0=v) (h5:A*4294967296+R1*4294967296=(w+d1)*4294967296) (m3:B+R0=R1*4294967296+d0) :
  U+v=R0+(A*4294967296+B):=by
 omega
theorem Lt (u:Nat):u*18446744073709551616=u*4294967296*4294967296:=by rw [Nat.mul_assoc]
theorem Gt {n:Nat} (hn:4<n) {x1 x2 x3:Nat} (h1:x1<x3) (h2:x2<18446744073709551616) (h3:x3<18446744073709551616) :
  Ev n x1 x2 x3=some ((x1*18446744073709551616+x2)/x3,(x1*18446744073709551616+x2)%x3):=by
 unfold Ev;rw [aU (by omega),aU (by omega)]
 by_cases hz:x1=0
 ·subst hz;rw [aP rfl,cy (by omega),cy (by omega),np (Nat.lt_of_le_of_lt (Nat.div_le_self _ _) h2)]
  simp
 ·rw [aU hz];obtain ⟨l1,l2,l3⟩:=JD (x:=x3) (by omega)
  have l4:bl x3≤64:=IB h3;obtain ⟨s,hs⟩:∃ s,bl x3+s=64:=⟨64-bl x3,by omega⟩
  have r12:BN n x3=some ((s:Nat):Int):=by
   unfold BN;rw [zx n x3 h3,ah,aK (by omega) (by omega)]
   congr 1
   omega
  have u12:ui .u64 ((s:Nat):Int)=s:=by
   show (((s:Nat):Int)%((2 ^ 64:Nat):Int)).toNat=s
   omega
  have P0:0<2 ^ s:=Nat.two_pow_pos s;have PP:2 ^ s*2 ^ (64-s)=18446744073709551616:=by rw [← Nat.pow_add,show s+(64-s)=64 by omega]
  have X1:x3*2 ^ s<18446744073709551616:=by
   have:x3*2 ^ s<2 ^ bl x3*2 ^ s:=Nat.mul_lt_mul_of_pos_right l2 P0;rw [← Nat.pow_add,hs] at this;exact this
  have X2:9223372036854775808≤x3*2 ^ s:=by
   have:2 ^ (bl x3-1)*2 ^ s≤x3*2 ^ s:=Nat.mul_le_mul_right _ l1;rw [← Nat.pow_add,show bl x3-1+s=63 by omega] at this
   exact this
  have X3:x1*2 ^ s<x3*2 ^ s:=Nat.mul_lt_mul_of_pos_right h1 P0;have s3:fJ .u64 x3 s=x3*2 ^ s:=by
   rw [o7 (by omega),np X1]
  have s1:fJ .u64 x1 s=x1*2 ^ s:=by
   rw [o7 (by omega),np (by omega)]
  have s2:fJ .u64 x2 s=x2*2 ^ s%18446744073709551616:=by
   rw [o7 (by omega)]; rfl
  have t2:cx .u64 x2 (gz .u64 64 s)=x2/2 ^ (64-s):=by
   rw [tj (by decide) (by omega)]
   rw [zB (by omega)]
  have t3:x2/2 ^ (64-s)<2 ^ s:=by rw [Nat.div_lt_iff_lt_mul (Nat.two_pow_pos _),PP]; exact h2
  have t4:x2*2 ^ s/18446744073709551616=x2/2 ^ (64-s):=by rw [← PP,Nat.mul_comm x2,Nat.mul_div_mul_left _ _ P0]
  have hor:uw .u64 (uw .u64 (x1*2 ^ s) ||| uw .u64 (x2/2 ^ (64-s)))=x1*2 ^ s+x2/2 ^ (64-s):=by
   have h5:x2/2 ^ (64-s)≤x2:=Nat.div_le_self _ _;rw [oP (show x1*2 ^ s<2 ^ 64 by omega) (show x2/2 ^ (64-s)<2 ^ 64 by omega),← Nat.shiftLeft_eq,Nat.shiftLeft_add_eq_or_of_lt t3]
  rw [r12,ah,u12,ah,s3,s1,t2,hor,s2];have key:(x1*2 ^ s+x2/2 ^ (64-s))*18446744073709551616+x2*2 ^ s%18446744073709551616=(x1*18446744073709551616+x2)*2 ^ s:=by
   have:=Nat.div_add_mod (x2*2 ^ s) 18446744073709551616;rw [t4] at this;rw [Nat.add_mul,Nat.add_mul,Nat.mul_right_comm x1];omega
  have hv:x2*2 ^ s%18446744073709551616<18446744073709551616:=Nat.mod_lt _ (by decide)
  have hu:x1*2 ^ s+x2/2 ^ (64-s)<x3*2 ^ s:=by
   have h5:(x1*18446744073709551616+x2)*2 ^ s<(x3*18446744073709551616)*2 ^ s:=Nat.mul_lt_mul_of_pos_right (by omega) P0
   rw [← key,Nat.mul_right_comm x3] at h5;omega
  have res1:(x1*18446744073709551616+x2)/x3=((x1*18446744073709551616+x2)*2 ^ s)/(x3*2 ^ s):=by rw [Nat.mul_div_mul_right _ _ P0]
  have res2:(x1*18446744073709551616+x2)%x3=(((x1*18446744073709551616+x2)*2 ^ s)%(x3*2 ^ s))/2 ^ s:=by rw [Nat.mul_mod_mul_right,Nat.mul_div_cancel _ P0]
  rw [res1,res2,← key];have hss:∀ R,cx .u64 R s=R/2 ^ s:=fun R=>zB (by omega)
  clear PP t3 t4 hor key res1 res2 r12 u12 s1 s2 s3 t2 P0 X3 l1 l2 l3 l4 hs;generalize x1*2 ^ s+x2/2 ^ (64-s)=u at hu ⊢;generalize x2*2 ^ s%18446744073709551616=v at hv ⊢;generalize x3*2 ^ s=X at X1 X2 hu ⊢;have hX:X/4294967296*4294967296+X%4294967296=X:=Nat.div_add_mod' _ _;rw [cy (show 0<cx .u64 X 32 by rw [CK]; omega)]
  simp only [CK,wq X1,wq hv];rw [ah,BF];rw [zO hn (u:=u) (y1:=X/4294967296) (y0:=X%4294967296) (d:=v/4294967296) (by omega) (by omega) (by omega) (by omega) (by omega),hX]
  have q1:(u*4294967296+v/4294967296)/X<4294967296:=by rw [Nat.div_lt_iff_lt_mul (by omega)]; omega
  have m1:=Nat.div_add_mod (u*4294967296+v/4294967296) X;have m2:=Nat.mod_lt (u*4294967296+v/4294967296) (show 0<X by omega)
  rw [Option.map_some,ah]
  dsimp only
  rw [ah,cy (by omega)]
  have e1:uw .u64 (uw .u64 (u*4294967296)+v/4294967296)=uw .u64 (u*4294967296+v/4294967296):=Nat.mod_add_mod _ _ _;rw [Nat.mul_comm X] at m1;rw [e1,rz (by omega) (by omega)]
  have e2:u*4294967296+v/4294967296-(u*4294967296+v/4294967296)/X*X=(u*4294967296+v/4294967296)%X:=by omega
  rw [e2];obtain ⟨Q1,hQ1⟩:∃ Q,(u*4294967296+v/4294967296)/X=Q:=⟨_,rfl⟩;obtain ⟨R1,hR1⟩:∃ R,(u*4294967296+v/4294967296)%X=R:=⟨_,rfl⟩;clear e2;rw [hQ1] at q1 m1 ⊢;rw [hR1] at m1 m2 ⊢;rw [zO hn (u:=R1) (y1:=X/4294967296) (y0:=X%4294967296) (d:=v%4294967296) (by omega) (by omega) (by omega) (by omega) (by omega),hX,ah]
  have q0:(R1*4294967296+v%4294967296)/X<4294967296:=by rw [Nat.div_lt_iff_lt_mul (by omega)]; omega
  have m3:=Nat.div_add_mod (R1*4294967296+v%4294967296) X;have m4:=Nat.mod_lt (R1*4294967296+v%4294967296) (show 0<X by omega)
  rw [Nat.mul_comm X] at m3;have e3:uw .u64 (uw .u64 (R1*4294967296)+v%4294967296)=uw .u64 (R1*4294967296+v%4294967296):=Nat.mod_add_mod _ _ _;rw [e3,ah,rz (by omega) (by omega)]
  have e4:R1*4294967296+v%4294967296-(R1*4294967296+v%4294967296)/X*X=(R1*4294967296+v%4294967296)%X:=by omega
  rw [e4,hss];obtain ⟨Q0,hQ0⟩:∃ Q,(R1*4294967296+v%4294967296)/X=Q:=⟨_,rfl⟩;obtain ⟨R0,hR0⟩:∃ R,(R1*4294967296+v%4294967296)%X=R:=⟨_,rfl⟩;clear e4;rw [hQ0] at q0 m3 ⊢;rw [hR0] at m3 m4 ⊢;rw [np (a:=Q1*4294967296) (by omega),np (by omega)]
  clear hQ1 hR1 hQ0 hR0 e1 e3 hss X1 X2 hX q0 q1 m2 hu h1 h2 h3 hz;have fin:u*18446744073709551616+v=R0+(Q1*4294967296+Q0)*X:=by
   have h5:Q1*X*4294967296+R1*4294967296=(u*4294967296+v/4294967296)*4294967296:=by rw [← m1,Nat.add_mul]
   rw [Nat.add_mul,Nat.mul_right_comm Q1];have h6:=Nat.div_add_mod v 4294967296;generalize v/4294967296=d1 at h5 h6;generalize v%4294967296=d0 at m3 h6;generalize Q1*X=A at h5 ⊢;generalize Q0*X=B at m3 ⊢;exact G8 (Lt u) h6 h5 m3
  rw [fin,Nat.add_mul_div_right _ _ (show 0<X by omega),Nat.add_mul_mod_self_right,Nat.div_eq_of_lt m4,Nat.mod_eq_of_lt m4,Nat.zero_add]
end Go.Proofs.YtookeaakpiefjaaGreatDoor
end

section
namespace Go.Proofs.YtookeaakpiefjaaGreatDoor
open Go Go.Ab Go.Ab.W
theorem EW {q:List Nat} {i e d:Nat}:(List.replicate i 0++e::q).set i d=List.replicate i 0++d::q:=by
 rw [List.set_append_right _ _ (by simp)]
 simp
theorem Ew (i:Nat) (q:List Nat):List.replicate (i+1) 0++q=List.replicate i 0++0::q:=by
 rw [List.replicate_succ',List.append_assoc]; rfl
theorem vU {n:Nat} {l:List Nat} {d:Nat} (hl:Wd l) (hd:d<18446744073709551616) (h0:d≠0) (hb:l.length<1000000) (hn:l.length<n) (hn4:4<n) :
  ∃ q t m,BP n l [d]=some (q,m)∧Wd q∧vl q=vl l/d∧q.length=l.length∧Lg ((vl l%d:Nat):Int) t m∧t=false:=by
 have hL:∀ i q r m,i+q.length=l.length→i<m→Wd q→r<d→vl l=vl (l.take i)+wp i*(d*vl q+r) →
   ∃ q' r',bH (mZ n l [d]) m (List.replicate i 0++q,r,(i:Int)-1)=some (q',r')∧Wd q'∧q'.length=l.length∧r'<d∧vl l=d*vl q'+r':=by
  intro i
  induction i with
  | zero =>
   intro q r m hi hm hq hr hv;obtain ⟨m,rfl⟩:∃ m',m=m'+1:=⟨m-1,by omega⟩
   refine ⟨q,r,aZ ?_,hq,by omega,hr,?_⟩
   ·unfold mZ
    dsimp only
    rw [aU (by decide)]; rfl
   ·rw [hv]; simp [vl,wp]
  | succ i ih =>
   intro q r m hi hm hq hr hv;obtain ⟨m,rfl⟩:∃ m',m=m'+1:=⟨m-1,by omega⟩
   have hi':i<l.length:=by omega
   obtain ⟨x,e2⟩:∃ x,l[i]? = some x:=⟨l[i],by simp⟩
   have hx:=hl.at e2;have e0:((i+1:Nat):Int)-1=((i:Nat):Int):=by omega
   have ht:vl (l.take (i+1))=vl (l.take i)+wp i*x:=by
    rw [List.take_add_one,e2,Option.toList_some,oK,List.length_take,Nat.min_eq_left (Nat.le_of_lt hi')]
   have e3:(List.replicate (i+1) 0++q)[i]? = some 0:=by rw [List.getElem?_append_left (by simp),List.getElem?_replicate]; simp
   have hqd:(r*18446744073709551616+x)/d<18446744073709551616:=by
    rw [Nat.div_lt_iff_lt_mul (by omega),Nat.mul_comm _ d]
    have:(r+1)*18446744073709551616≤d*18446744073709551616:=Nat.mul_le_mul_right _ hr;omega
   have st:mZ n l [d] (List.replicate (i+1) 0++q,r,((i:Nat):Int))=some (.inl (List.replicate i 0++(r*18446744073709551616+x)/d::q,(r*18446744073709551616+x)%d,(i:Int)-1)):=by
    unfold mZ
    dsimp only
    rw [aP (by omega),aF hi',aR,Int.toNat_natCast,e2,ah]
    rw [show bD 0 [d].length=true from rfl,aR,show ([d]:List Nat)[(0:Int).toNat]? = some d from rfl,ah,Gt hn4 hr hx hd,ah]
    dsimp only
    rw [Int.toNat_natCast,aF hi',aR,e3,ah,Ew,EW,aK (by omega) (by omega)]
   rw [e0,aY st];refine ih _ _ m (by rw [List.length_cons]; omega) (by omega) (fun e he=>?_) (Nat.mod_lt _ (by omega)) ?_
   ·rcases List.mem_cons.1 he with rfl | h
    ·exact hqd
    ·exact hq e h
   ·have h1:=Nat.div_add_mod (r*18446744073709551616+x) d;rw [hv,ht,gO,e7];generalize (r*18446744073709551616+x)%d=R at h1 ⊢;generalize (r*18446744073709551616+x)/d=Q at h1 ⊢;have h2:wp i*(d*Q+R)=wp i*(r*18446744073709551616+x):=by rw [h1]
    rw [Nat.mul_comm r] at h2;simp only [Nat.mul_add,Nat.mul_left_comm (wp i) 18446744073709551616,Nat.mul_left_comm d 18446744073709551616,Nat.mul_assoc] at h2 ⊢;omega
 obtain ⟨q,r,q1,q2,q3,q4,q5⟩:=hL l.length [] 0 n (by simp) hn Wd.nil (by omega) (by rw [List.take_length,jO]; simp)
 rw [List.append_nil] at q1;obtain ⟨t,m,m1,m2⟩:=gI (n:=n) false (Wd.one (show r<18446744073709551616 by omega)) (by simp) (by simp; omega)
 have hr:vl [r]=r:=by simp [vl]
 rw [hr] at m2;have dq:vl q=vl l/d:=by
  rw [q5,Nat.mul_add_div (by omega),Nat.div_eq_of_lt q4]; rfl
 have dr:r=vl l%d:=by
  rw [q5,Nat.mul_add_mod,Nat.mod_eq_of_lt q4]
 refine ⟨q,t,m,?_,q2,dq,q3,by rw [← dr]; exact m2,?_⟩
 ·unfold BP;rw [cy (by omega),Int.toNat_natCast,fp (by omega),aR,aP (show (([d]:List Nat).length:Int)=1 from rfl),aK (by omega) (by omega),q1,ah]
  dsimp only
  rw [m1]; rfl
 ·have:=m2.BY;rw [this];simp [vk]
theorem tt {n:Nat} {a b:Int} {s t:Bool} {l k:List Nat} (h:Lg (a*b) s l) (h':Lg b t k) (h0:b≠0) (hbb:b.natAbs<18446744073709551616) (hb:l.length<1000000) (hn:l.length<n) (hn4:4<n) :
  ∃ u m v o,yX n s l t k=some (u,m,v,o)∧Lg a u m:=by
 have hk:=h'.M0 h0 hbb;subst hk;obtain ⟨q,t',m,q1,q2,q3,q4,q5,q6⟩:=vU (n:=n) h.wd hbb (by omega) hb hn hn4
 obtain ⟨u,m',u1,u2⟩:=gI (n:=n) (!(s == t)) q2 (by omega) (by omega)
 have hz:(vl l%b.natAbs:Nat)=0:=by rw [h.abs,Int.natAbs_mul,Nat.mul_mod_left]
 rw [hz] at q5;obtain ⟨rfl,rfl⟩:=q5.inj Lg.zero;obtain ⟨v,o,v1,v2⟩:=gI (n:=n) s Wd.nil (by simp) (by simp; omega)
 have v3:Lg 0 v o:=by rw [jO,u7] at v2; exact v2
 obtain ⟨rfl,rfl⟩:=v3.inj Lg.zero;refine ⟨u,m',false,[],?_,?_⟩
 ·unfold yX;rw [q1,ah]
  dsimp only
  rw [u1,ah]
  dsimp only
  rw [v1,ah]
  rfl
 ·have e1:vl q=a.natAbs:=by rw [q3,h.abs,Int.natAbs_mul,Nat.mul_div_cancel _ (by omega)]
  have hs:=h.BY;have ht:=h'.BY;have:a=vk (!(s == t)) (vl q)∨(a=0):=by
   by_cases ha:a=0
   ·exact .inr ha
   ·refine .inl ?_;rw [e1,hs,ht];unfold vk
    by_cases hb0:b<0 <;> by_cases ha0:a<0
    ·have:¬ a*b<0:=Int.not_lt.2 (Int.mul_nonneg_of_nonpos_of_nonpos (by omega) (by omega))
     simp [hb0,this]; omega
    ·have:a*b<0:=Int.mul_neg_of_pos_of_neg (by omega) hb0
     simp [hb0,this]; omega
    ·have:a*b<0:=Int.mul_neg_of_neg_of_pos ha0 (by omega)
     simp [hb0,this]; omega
    ·have:¬ a*b<0:=Int.not_lt.2 (Int.mul_nonneg (by omega) (by omega))
     simp [hb0,this]; omega
  rcases this with e | e
  ·rw [e]; exact u2
  ·rw [e,Int.natAbs_zero] at e1;rw [e1,u7] at u2;rw [e]; exact u2
end Go.Proofs.YtookeaakpiefjaaGreatDoor
end

section
namespace Go.Proofs.YtookeaakpiefjaaGreatDoor
open Go Go.Ab Go.Ab.W
theorem MK (m:Nat):vC (m+20) 0=some (false,[]):=by rfl
theorem M8 (m:Nat):vC (m+20) 1=some (false,[1]):=by rfl
theorem LM (m:Nat):vC (m+20) (-1)=some (true,[1]):=by rfl
theorem vG {n:Nat} (h:20≤n):vC n 0=some (false,[]):=by obtain ⟨m,rfl⟩:∃ m,n=m+20:=⟨n-20,by omega⟩; exact MK m
theorem ux {n:Nat} (h:20≤n):vC n 1=some (false,[1]):=by obtain ⟨m,rfl⟩:∃ m,n=m+20:=⟨n-20,by omega⟩; exact M8 m
theorem A3 {n:Nat} (h:20≤n):vC n (-1)=some (true,[1]):=by obtain ⟨m,rfl⟩:∃ m,n=m+20:=⟨n-20,by omega⟩; exact LM m
theorem yw:Lg 1 false [1]:=Lg.small (by decide) (by decide) false
theorem EZ:Lg (-1) true [1]:=Lg.small (by decide) (by decide) true
end Go.Proofs.YtookeaakpiefjaaGreatDoor
end

section
namespace Go.Proofs.YtookeaakpiefjaaGreatDoor
open Go Go.Ab Go.Ab.W Go.Ab.T30
def sC (s:Nat) (L:List (List (Bool × List Nat))) (M:Mt):Prop :=
 L.length=s∧∀ r,r<s→∃ row,L[r]? = some row∧row.length=s∧∀ c,c<s→∃ t k,row[c]? = some (t,k)∧Lg (M r c) t k
section
variable {s : Nat} {L : List (List (Bool × List Nat))} {M M' : Mt}
theorem sC.congr (h:sC s L M) (he:∀ r c,r<s→c<s→M r c=M' r c):sC s L M' :=
 ⟨h.1,fun r hr=>by
  obtain ⟨row,h1,h2,h3⟩:=h.2 r hr;exact ⟨row,h1,h2,fun c hc=>by rw [← he r c hr hc]; exact h3 c hc⟩⟩
theorem sC.at (h:sC s L M) {r c:Nat} (hr:r<s) (hc:c<s):∃ row t k,L[r]? = some row∧row.length=s∧row[c]? = some (t,k)∧Lg (M r c) t k:=by
 obtain ⟨row,h1,h2,h3⟩:=h.2 r hr;obtain ⟨t,k,h4,h5⟩:=h3 c hc;exact ⟨row,t,k,h1,h2,h4,h5⟩
theorem sC.set (h:sC s L M) {i j:Nat} {row:List (Bool × List Nat)} {t:Bool} {k:List Nat} {x:Int} (hi:i<s) (hj:j<s) (hrow:L[i]? = some row) (hx:Lg x t k) :
  sC s (L.set i (row.set j (t,k))) fun r c=>if r=i∧c=j then x else M r c:=by
 refine ⟨by rw [List.length_set]; exact h.1,fun r hr=>?_⟩
 by_cases hri:r=i
 ·subst hri;obtain ⟨row',h1,h2,h3⟩:=h.2 r hr;rw [hrow] at h1;cases h1;refine ⟨_,by rw [List.getElem?_set_self (by rw [h.1]; exact hr)],by rw [List.length_set]; exact h2,fun c hc=>?_⟩
  by_cases hcj:c=j
  ·subst hcj;exact ⟨t,k,by rw [List.getElem?_set_self (by rw [h2]; exact hc)],by dsimp only; rw [if_pos ⟨rfl,rfl⟩]; exact hx⟩
  ·dsimp only
   rw [List.getElem?_set_ne (fun e=>hcj e.symm),if_neg (fun e:r=r∧c=j=>hcj e.2)];exact h3 c hc
 ·obtain ⟨row',h1,h2,h3⟩:=h.2 r hr;refine ⟨row',by rw [List.getElem?_set_ne (fun e=>hri e.symm)]; exact h1,h2,fun c hc=>?_⟩
  dsimp only
  rw [if_neg (fun e:r=i∧c=j=>hri e.1)];exact h3 c hc
end
theorem DP {a b:Nat} (h:a<b):Nat.blt a b=true:=Nat.ble_eq_true_of_le h
def N0 (s k:Nat) (M:Mt):Prop:=∀ r c,k≤r→r<s→k≤c→c<s→(M r c).natAbs<wp 15
theorem ke {a b:Int} {j k:Nat} (ha:a.natAbs<wp j) (hb:b.natAbs<wp k):(a*b).natAbs<wp (j+k):=by
 rw [Int.natAbs_mul,Ki];have h1:a.natAbs*b.natAbs≤a.natAbs*wp k:=Nat.mul_le_mul_left _ (Nat.le_of_lt hb);have h2:a.natAbs*wp k<wp j*wp k:=Nat.mul_lt_mul_of_pos_right ha (Ec k);omega
theorem DT {n:Nat} (hn:100<n) {s k r:Nat} {A M:Mt} {p:Int} (hB:Bar A s k M p) (hk:k<s) (hr:k<r) (hrs:r<s) (hs:s≤64) (h0:M k k≠0) (hp:p.natAbs<18446744073709551616) (hb:N0 s k M)
  {tf:Bool} {kf:List Nat} (hf:Lg (M r k) tf kf) {tp:Bool} {kp:List Nat} (hP:Lg p tp kp) {N:Mt} (hN:∀ b,N k b=M k b) :
  ∀ j c m L,c+j=s→j<m→k≤c→sC s L (fun a b=>if a=r then (if k≤b∧b<c then Bd M k p a b else M a b) else N a b) →
   ∃ L',bH (qw n s (r:Int) (k:Int) tf kf tp kp) m (L,(c:Int))=some L'∧sC s L' (fun a b=>if a=r then (if k≤b∧b<s then Bd M k p a b else M a b) else N a b):=by
 intro j
 induction j with
 | zero =>
  intro c m L hj hm hkc hL;obtain ⟨m,rfl⟩:∃ m',m=m'+1:=⟨m-1,by omega⟩
  have hc:c=s:=by omega
  subst hc;refine ⟨L,aZ ?_,hL⟩;unfold qw
  dsimp only
  rw [aU (by omega)]
 | succ j ih =>
  intro c m L hj hm hkc hL;obtain ⟨m,rfl⟩:∃ m',m=m'+1:=⟨m-1,by omega⟩
  have hc:c<s:=by omega
  obtain ⟨row,t1,k1,a1,a2,a3,a4⟩:=hL.at hrs hc;obtain ⟨rowk,t2,k2,b1,b2,b3,b4⟩:=hL.at hk hk;obtain ⟨rowk',t3,k3,c1,c2,c3,c4⟩:=hL.at hk hc;rw [b1] at c1;cases c1;rw [if_pos rfl,if_neg (by omega)] at a4
  rw [if_neg (by omega),hN] at b4 c4
  have l1:=a4.len (hb r c (by omega) hrs hkc hc)
  have l2:=b4.len (hb k k (by omega) hk (by omega) hk)
  have l3:=c4.len (hb k c (by omega) hk hkc hc)
  have lf:=hf.len (hb r k (by omega) hrs (by omega) hk)
  obtain ⟨u1,v1,d1,d2⟩:=A4 (n:=n) a4 b4 (by omega) (by omega) (by omega)
  obtain ⟨u2,v2,e1,e2⟩:=A4 (n:=n) hf c4 (by omega) (by omega) (by omega)
  have l4:=d2.len (ke (hb r c (by omega) hrs hkc hc) (hb k k (by omega) hk (by omega) hk))
  have l5:=e2.len (ke (hb r k (by omega) hrs (by omega) hk) (hb k c (by omega) hk hkc hc))
  obtain ⟨u3,v3,f1,f2⟩:=KM (n:=n) d2 e2 (by omega) (by omega) (by omega)
  have l6:v3.length≤31:=f2.len (by
   have h1:=ke (hb r c (by omega) hrs hkc hc) (hb k k (by omega) hk (by omega) hk)
   have h2:=ke (hb r k (by omega) hrs (by omega) hk) (hb k c (by omega) hk hkc hc)
   rw [gO];simp only [Nat.reduceAdd] at h1 h2;omega)
  have hex:=hB.exact hk h0 hr hrs hkc hc;rw [hex,Int.mul_comm] at f2;obtain ⟨u4,v4,w4,o4,g1,g2⟩:=tt (n:=n) f2 hP hB.p0 hp (by omega) (by omega) (by omega)
  have st:qw n s (r:Int) (k:Int) tf kf tp kp (L,(c:Int))=some (.inl (L.set r (row.set c (u4,v4)),((c+1:Nat):Int))):=by
   unfold qw
   dsimp only
   simp only [Int.toNat_natCast];rw [aP (by omega),aF hrs,aR,a1,ah,cy (by omega),a2,aF hc,aR,a3,ah]
   dsimp only
   rw [aF hk,aR,b1,ah,cy (by omega),b2,aF hk,aR,b3,ah]
   dsimp only
   rw [d1,ah]
   dsimp only
   rw [aR,ah,cy (by omega),b2,aF hc,aR,c3,ah]
   dsimp only
   rw [e1,ah]
   dsimp only
   rw [f1,ah]
   dsimp only
   rw [aR,ah,cy (by omega),g1,ah]
   dsimp only
   rw [a2,aF hc,aR,DP hc,aR,bf (by omega)]
  rw [aY st];refine ih (c+1) m _ (by omega) (by omega) (by omega) ((hL.set hrs hc a1 g2).congr fun a b ha hb'=>?_)
  by_cases h1:a=r∧b=c
  ·rw [if_pos h1,if_pos h1.1,if_pos ⟨by omega,by omega⟩,h1.1,h1.2]
  ·rw [if_neg h1]
   by_cases h3:a=r
   ·rw [if_pos h3,if_pos h3]
    by_cases h2:k≤b∧b<c
    ·rw [if_pos h2,if_pos ⟨h2.1,by omega⟩]
    ·rw [if_neg h2,if_neg (by omega)]
   ·rw [if_neg h3,if_neg h3]
theorem B1 {n:Nat} (hn:100<n) {s k:Nat} {A M:Mt} {p:Int} (hB:Bar A s k M p) (hk:k<s) (hs:s≤64) (h0:M k k≠0) (hp:p.natAbs<18446744073709551616) (hb:N0 s k M)
  {tp:Bool} {kp:List Nat} (hP:Lg p tp kp) :
  ∀ j r m L,r+j=s→j<m→k<r→sC s L (fun a b=>if k<a∧a<r∧k≤b then Bd M k p a b else M a b) →
   ∃ L',bH (m5 n s (k:Int) tp kp) m (L,(r:Int))=some L'∧sC s L' (Bd M k p):=by
 intro j
 induction j with
 | zero =>
  intro r m L hj hm hkr hL;obtain ⟨m,rfl⟩:∃ m',m=m'+1:=⟨m-1,by omega⟩
  have hr:r=s:=by omega
  subst hr;refine ⟨L,aZ ?_,hL.congr fun a b ha hb'=>?_⟩
  ·unfold m5
   dsimp only
   rw [aU (by omega)]
  ·by_cases h1:k<a∧k≤b
   ·rw [if_pos ⟨h1.1,ha,h1.2⟩]
   ·rw [if_neg (by omega)]; unfold Bd; rw [if_neg h1]
 | succ j ih =>
  intro r m L hj hm hkr hL;obtain ⟨m,rfl⟩:∃ m',m=m'+1:=⟨m-1,by omega⟩
  have hr:r<s:=by omega
  obtain ⟨row,t1,k1,a1,a2,a3,a4⟩:=hL.at hr hk;rw [if_neg (by omega)] at a4
  have hL9:∃ L',bH (qw n s (r:Int) (k:Int) t1 k1 tp kp) n (L,(k:Int))=some L'∧sC s L' (fun a b=>if k<a∧a<r+1∧k≤b then Bd M k p a b else M a b):=by
   obtain ⟨L',c1,c2⟩:=DT hn hB hk hkr hr hs h0 hp hb a4 hP (N:=fun a b=>if k<a∧a<r∧k≤b then Bd M k p a b else M a b) (fun b=>by rw [if_neg (by omega)]) (s-k) k n L (by omega) (by omega) (Nat.le_refl _) (hL.congr fun a b ha hb'=>by
    by_cases h3:a=r
    ·rw [if_neg (by omega),if_pos h3,if_neg (by omega)]
    ·rw [if_neg (c:=a=r) h3])
   refine ⟨L',c1,c2.congr fun a b ha hb'=>?_⟩
   by_cases h3:a=r
   ·rw [if_pos h3]
    by_cases h4:k≤b
    ·rw [if_pos ⟨h4,hb'⟩,if_pos ⟨by omega,by omega,h4⟩]
    ·rw [if_neg (by omega),if_neg (by omega)]
   ·rw [if_neg h3]
    by_cases h4:k<a∧a<r∧k≤b
    ·rw [if_pos h4,if_pos ⟨h4.1,by omega,h4.2.2⟩]
    ·rw [if_neg h4,if_neg (by omega)]
  obtain ⟨L',b1,b2⟩:=hL9;have st:m5 n s (k:Int) tp kp (L,(r:Int))=some (.inl (L',((r+1:Nat):Int))):=by
   unfold m5
   dsimp only
   simp only [Int.toNat_natCast];rw [aP (by omega),aF hr,aR,a1,ah,cy (by omega),a2,aF hk,aR,a3,ah]
   dsimp only
   rw [b1,ah,bf (by omega)]
  rw [aY st];exact ih (r+1) m _ (by omega) (by omega) (by omega) b2
theorem BB {n:Nat} (hn:100<n) {s:Nat} {A:Mt} (hs:s≤64) (hD:∀ k r c,k<s→r<s→c<s→(cj (k+1) (jw A k r c)).natAbs<wp 15) (hP:∀ k,k<s→(cj k A).natAbs<18446744073709551616) :
  ∀ j k m L M p tp kp,j+k=s→j<m→sC s L M→Bar A s k M p→Lg p tp kp →
   ∃ t q,(bH (hJ n s) m (L,tp,kp,(k:Int))=some (.inl (t,q))∨bH (hJ n s) m (L,tp,kp,(k:Int))=some (.inr (t,q)))∧Lg (I2 j k M p) t q:=by
 intro j
 induction j with
 | zero =>
  intro k m L M p tp kp hj hm hL hB hp;obtain ⟨m,rfl⟩:∃ m',m=m'+1:=⟨m-1,by omega⟩
  refine ⟨tp,kp,.inr (aZ ?_),hp⟩;unfold hJ
  dsimp only
  rw [aU (by omega)]
 | succ j ih =>
  intro k m L M p tp kp hj hm hL hB hp;obtain ⟨m,rfl⟩:∃ m',m=m'+1:=⟨m-1,by omega⟩
  have hk:k<s:=by omega
  obtain ⟨row,t1,k1,a1,a2,a3,a4⟩:=hL.at hk hk;obtain ⟨r,r1,r2,r3⟩:=Dc (n:=n) a4;have hb:N0 s k M:=fun r c h1 h2 h3 h4=>by rw [hB.minor h1 h2 h3 h4]; exact hD k r c hk h2 h4
  unfold I2
  by_cases h0:M k k=0
  ·rw [if_pos h0];refine ⟨false,[],.inl (aZ ?_),Lg.zero⟩;unfold hJ
   dsimp only
   simp only [Int.toNat_natCast];rw [aP (by omega),aF hk,aR,a1,ah,cy (by omega),a2,aF hk,aR,a3,ah]
   dsimp only
   rw [r1,ah,aP (r3.2 h0),vG (by omega),ah]
  ·rw [if_neg h0];obtain ⟨L',b1,b2⟩:=B1 hn hB hk hs h0 (by rw [hB.pe]; exact hP k hk) hb hp (s-(k+1)) (k+1) n L (by omega) (by omega) (by omega) (hL.congr fun a b _ _=>by rw [if_neg (by omega)])
   obtain ⟨row',t2,k2,c1,c2,c3,c4⟩:=b2.at hk hk;have he:Bd M k p k k=M k k:=by unfold Bd; rw [if_neg (by omega)]
   rw [he] at c4;have st:hJ n s (L,tp,kp,(k:Int))=some (.inl (L',t2,k2,((k+1:Nat):Int))):=by
    unfold hJ
    dsimp only
    simp only [Int.toNat_natCast];rw [aP (by omega),aF hk,aR,a1,ah,cy (by omega),a2,aF hk,aR,a3,ah]
    dsimp only
    rw [r1,ah,aU (fun e=>h0 (r3.1 e)),bf (by omega),b1,ah,aR,c1,ah,cy (by omega),c2,aF hk,aR,c3,ah]
   rw [aY st];exact ih (k+1) m L' _ _ t2 k2 (by omega) (by omega) b2 (hB.step hk h0) c4
end Go.Proofs.YtookeaakpiefjaaGreatDoor
end

section
namespace Go.Proofs.YtookeaakpiefjaaGreatDoor
open Go Go.Ab Go.Ab.W
theorem sf {α β:Type} [DecidableEq α] (xs:List (α × β)) (k k':α) (v:β):bR (fk xs k v) k'=(if k'=k then some v else bR xs k')∧(fk xs k v).length=(if bR xs k=none then xs.length+1 else xs.length):=by
 have key:∀ (xs:List (α × β)) (i:Nat),(cq k xs i=none→∀ j,(cq k' (xs++[(k,v)]) j).map (·.2)=if k'=k then some v else (cq k' xs j).map (·.2)) ∧
   (∀ p,cq k xs i=some p→i≤p.1∧∀ j,(cq k' (xs.set (p.1-i) (k,v)) j).map (·.2)=if k'=k then some v else (cq k' xs j).map (·.2)):=by
  intro xs
  induction xs with
  | nil =>
   intro i;refine ⟨fun _ j=>?_,fun p h=>by simp [cq] at h⟩
   simp only [List.nil_append,cq]
   by_cases h:k'=k <;> simp [h]
  | cons e xs ih =>
   intro i
   by_cases he:k=e.1
   ·refine ⟨fun h=>by simp [cq,he] at h,fun p h=>?_⟩
    have hp:p=(i,e.2):=by simp [cq,he] at h; exact h.symm
    subst hp;refine ⟨Nat.le_refl _,fun j=>?_⟩;simp only [Nat.sub_self,List.set_cons_zero,cq]
    by_cases h:k'=k
    ·simp [h]
    ·have:k'≠e.1:=fun c=>h (c.trans he.symm);simp [h,this]
   ·refine ⟨fun h j=>?_,fun p h=>?_⟩
    ·have h':cq k xs (i+1)=none:=by simpa [cq,he] using h
     simp only [List.cons_append,cq]
     by_cases h2:k'=e.1
     ·have:k'≠k:=fun c=>he (c.symm.trans h2);simp [h2,Ne.symm he]
     ·simp only [if_neg h2];exact (ih (i+1)).1 h' (j+1)
    ·have h':cq k xs (i+1)=some p:=by simpa [cq,he] using h
     obtain ⟨g1,g2⟩:=(ih (i+1)).2 p h';refine ⟨by omega,fun j=>?_⟩
     rw [show p.1-i=(p.1-(i+1))+1 by omega,List.set_cons_succ]
     simp only [cq]
     by_cases h2:k'=e.1
     ·have:k'≠k:=fun c=>he (c.symm.trans h2);simp [h2,Ne.symm he]
     ·simp only [if_neg h2];exact g2 (j+1)
 unfold bR fk;cases h:cq k xs 0 with
 | none=>exact ⟨(key xs 0).1 h 0,by simp⟩
 | some p=>exact ⟨((key xs 0).2 p h).2 0,by simp⟩
theorem rA {α β:Type} [DecidableEq α] (xs:List (α × β)) (k k':α) (v:β):bR (fk xs k v) k'=if k'=k then some v else bR xs k':=(sf xs k k' v).1
theorem Et {α β:Type} [DecidableEq α] (xs:List (α × β)) (k:α) (v:β) (h:bR xs k=none):(fk xs k v).length=xs.length+1:=by rw [(sf xs k k v).2,if_pos h]
theorem Fv {α β:Type} [DecidableEq α] (xs:List (α × β)) (k k':α) (v d:β):(bR (fk xs k v) k').getD d=if k'=k then v else (bR xs k').getD d:=by
 rw [rA]; split <;> rfl
end Go.Proofs.YtookeaakpiefjaaGreatDoor
end

section
namespace Go.Proofs.YtookeaakpiefjaaGreatDoor
open Go Go.Ab Go.Ab.W Go.Ab.T30
def wi (es:List (Int × Int)) (x:Nat) (W:List (Int × Bool)) (i:Nat):Bool:=hZ es x (i:Int) && (bR W (i:Int)).getD false
def wl (es:List (Int × Int)) (x:Nat) (W:List (Int × Bool)) (i j:Nat):List (Nat × Nat):=((List.range' i j).filter (wi es x W)).map fun (k:Nat)=>eg es (k:Int)
theorem Ih (es:List (Int × Int)) (x:Nat) (W:List (Int × Bool)) (i j:Nat):wl es x W i (j+1)=if wi es x W i then eg es (i:Int)::wl es x W (i+1) j else wl es x W (i+1) j:=by
 unfold wl;rw [List.range'_succ,List.filter_cons]
 split <;> rfl
theorem CN {N:Nat} {es:List (Int × Int)} (h:Okay N es) {n x:Nat} (hx:x<2 ^ 64) (hn:64<n) (W:List (Int × Bool)) :
  ∀ j i m p r E,i+j=es.length→j<m→Fst p r→Rt r E →
   (bZ r (wl es x W i j)=true→∃ p' E',bH (jR n es x W) m ((i:Int),p,p.length)=some (.inr (p',p'.length))∧Fst p' ((wl es x W i j).foldl bg r)∧Rt ((wl es x W i j).foldl bg r) E') ∧
   (bZ r (wl es x W i j)=false→∃ p' k,bH (jR n es x W) m ((i:Int),p,p.length)=some (.inl (false,[],p',k))):=by
 intro j
 induction j with
 | zero =>
  intro i m p r E hij hm hp hr;obtain ⟨m,rfl⟩:∃ m',m=m'+1:=⟨m-1,by omega⟩
  have h0:wl es x W i 0 = []:=rfl;rw [h0];refine ⟨fun _=>⟨p,E,aZ ?_,hp,hr⟩,fun h=>by cases h⟩
  unfold jR
  dsimp only
  rw [aU (by omega)]
 | succ j ih =>
  intro i m p r E hij hm hp hr;obtain ⟨m,rfl⟩:∃ m',m=m'+1:=⟨m-1,by omega⟩
  have hi:i<es.length:=by omega
  have hl:=h.len;obtain ⟨a,b,g1,g2,g3,g4,_,g5⟩:=gV h (k:=(i:Int)) ⟨by omega,by omega⟩
  rw [Int.toNat_natCast] at g1;have ha:a<64:=by omega
  have hin:hZ es x (i:Int)=(x.testBit a && x.testBit b):=by
   simp only [hZ,g2];rw [decide_eq_true ⟨by omega,by omega⟩,Bool.true_and]
  have w1:IntKind.wrap .i64 ((i:Int)+1)=((i+1:Nat):Int):=bf (by omega)
  rw [Ih,g2]
  by_cases h3:(x.testBit a && x.testBit b)=true
  ·by_cases h4:(bR W (i:Int)).getD false=true
   ·have hw:wi es x W i=true:=by unfold wi; rw [hin,h3,h4]; rfl
    rw [if_pos hw];have hM:max (r a) (r b)<p.length:=by rw [hp.len]; have:=hr.le a; have:=hr.le b; omega
    have hma:ma ((r a:Nat):Int) ((r b:Nat):Int)=((max (r a) (r b):Nat):Int):=by simp only [ma]; omega
    have hmi:mi ((r a:Nat):Int) ((r b:Nat):Int)=((min (r a) (r b):Nat):Int):=by simp only [mi]; omega
    have hpM:p[max (r a) (r b)]? = some (p[max (r a) (r b)]'hM):=List.getElem?_eq_getElem _;have key:jR n es x W ((i:Int),p,p.length)=if r a=r b then some (.inr (.inl (false,[],p.set (max (r a) (r b)) ((min (r a) (r b):Nat):Int),p.length))) else some (.inl (((i+1:Nat):Int),p.set (max (r a) (r b)) ((min (r a) (r b):Nat):Int),p.length)):=by
     unfold jR
     dsimp only
     rw [aP (by omega),aF hi,aR,Int.toNat_natCast,g1,ah]
     dsimp only
     rw [qv n x a b hx ha g4,ah,h3,cd,ah,h4,cd,z7 hp n a ha hn,ah,z7 hp n b g4 hn,ah,hma,aF hM,aR,Int.toNat_natCast,hpM,ah,ah,hmi]
     dsimp only
     rw [ah]
     dsimp only
     rw [w1]
     by_cases h5:r a=r b
     ·rw [if_pos h5,decide_eq_true (by omega),vG (by omega)]; rfl
     ·rw [if_neg h5,decide_eq_false (by omega)]; rfl
    unfold bZ
    by_cases h5:r a=r b
    ·rw [if_pos h5] at key
     dsimp only
     have:(r a == r b)=true:=by simpa using h5
     rw [this];exact ⟨fun h=>(by cases h),fun _=>⟨_,_,aZ key⟩⟩
    ·rw [if_neg h5] at key
     dsimp only
     have:(r a == r b)=false:=by simpa using h5
     rw [this,Bool.not_false,Bool.true_and,aY key,List.foldl_cons];have hj:=hp.join hr (e:=(a,b)) ha g4;have:=ih (i+1) m _ _ _ (by omega) (by omega) hj (hr.join (a,b))
     rw [List.length_set] at this;exact this
   ·rw [Bool.not_eq_true] at h4;have hw:wi es x W i=false:=by unfold wi; rw [h4,Bool.and_false]
    rw [hw];have key:jR n es x W ((i:Int),p,p.length)=some (.inl (((i+1:Nat):Int),p,p.length)):=by
     unfold jR
     dsimp only
     rw [aP (by omega),aF hi,aR,Int.toNat_natCast,g1,ah]
     dsimp only
     rw [qv n x a b hx ha g4,ah,h3,cd,ah,h4,cF,ah]
     dsimp only
     rw [cF,ah]
     dsimp only
     rw [ah]
     dsimp only
     rw [w1]
    rw [aY key];exact ih (i+1) m p r E (by omega) (by omega) hp hr
  ·rw [Bool.not_eq_true] at h3;have hw:wi es x W i=false:=by unfold wi; rw [hin,h3]; rfl
   rw [hw];have key:jR n es x W ((i:Int),p,p.length)=some (.inl (((i+1:Nat):Int),p,p.length)):=by
    unfold jR
    dsimp only
    rw [aP (by omega),aF hi,aR,Int.toNat_natCast,g1,ah]
    dsimp only
    rw [qv n x a b hx ha g4,ah,h3,cF,ah]
    dsimp only
    rw [w1]
   rw [aY key];exact ih (i+1) m p r E (by omega) (by omega) hp hr
theorem E1 (n:Nat) (p:List Int):DN n p.length p=fw n p:=rfl
theorem CB (n:Nat) (p:List Int):zA n p.length p=fw n p:=rfl
theorem E0 (n:Nat) (p:List Int):zR n p.length p=fw n p:=rfl
theorem EH (n:Nat) (p:List Int) (z:List (Int × Int)):∀ m v,bH (wG n p.length p) m (v,z)=(bH (fw n p) m v).map fun v=>(v,z):=by
 intro m
 induction m with
 | zero=>intro v; rfl
 | succ m ih =>
  intro v;have st:wG n p.length p (v,z)=(fw n p v).map fun x=>match x with | .inl v=>.inl (v,z) | .inr v=>.inr (v,z):=by
   unfold wG fw
   dsimp only
   cases bD v p.length
   ·rfl
   ·rw [aR,aR];cases p[v.toNat]? with
    | none=>rfl
    | some y =>
     rw [ah,ah];cases (!decide (y=v)) <;> rfl
  unfold bH;rw [st];cases fw n p v with
  | none=>rfl
  | some x =>
   cases x with
   | inl v=>exact ih v
   | inr v=>rfl
def IT (x:Nat) (r:Nat→Nat) (g:Nat) (v:Nat):Bool:=x.testBit v && r v == v && v != g
def qT (x:Nat) (r:Nat→Nat) (g i:Nat):List Nat:=(List.range i).filter (IT x r g)
theorem CT (x:Nat) (r:Nat→Nat) (g i:Nat):qT x r g (i+1)=if IT x r g i then qT x r g i++[i] else qT x r g i:=by
 unfold qT;rw [List.range_succ,List.filter_append,List.filter_cons]
 split <;> simp
theorem Kt {x:Nat} {r:Nat→Nat} {g i v:Nat} (h:v ∈ qT x r g i):v<i:=by
 unfold qT at h;rw [List.mem_filter,List.mem_range] at h;exact h.1
def Nm (x:Nat) (r:Nat→Nat) (g i:Nat) (T:List (Int × Int)):Prop :=
 T.length=(qT x r g i).length∧∀ v:Nat,bR T (v:Int)=if v ∈ qT x r g i then some (((qT x r g i).idxOf v:Nat):Int) else none
theorem ET {n x:Nat} (hx:x<2 ^ 64) (hn:64<n) {p:List Int} {r:Nat→Nat} (hp:Fst p r) (g:Nat):∃ T,bH (n7 n x p.length p (g:Int)) n (([]:List (Int × Int)),0)=some T∧Nm x r g 64 T:=by
 refine jK (body:=n7 n x p.length p (g:Int)) 64 (fun (s:List (Int × Int)) (v:Int)=>(s,v)) id (fun i s=>Nm x r g i s) (fun T i hi hI=>?_) (fun T _=>?_) (n:=n) ⟨rfl,fun v=>by simp [qT,bR,cq]⟩ hn
 ·have key:n7 n x p.length p (g:Int) (T,(i:Int))=some (.inl (if IT x r g i then fk T (i:Int) ((T.length:Nat):Int) else T,((i+1:Nat):Int))):=by
   unfold n7
   dsimp only
   rw [aP (by omega),cy (by omega),Int.toNat_natCast,sU hx (by omega),E1,hp.root n i n hi (by omega),bf (by omega)]
   unfold IT;cases x.testBit i
   ·rfl
   ·rw [cd,ah,ah]
    by_cases h1:r i=i
    ·rw [aP (by omega),ah]
     by_cases h2:i=g
     ·rw [decide_eq_true (by omega)]; simp [h1,h2,ob,br]
     ·rw [decide_eq_false (by omega)]; simp [h1,h2,ob,br]
    ·rw [aU (by omega),ah]; simp [h1,ob,br]
  refine ⟨_,key,?_⟩;obtain ⟨hl,hg⟩:=hI;have hni:i ∉ qT x r g i:=fun h=>Nat.lt_irrefl _ (Kt h);unfold Nm;rw [CT]
  by_cases hP:IT x r g i=true
  ·rw [if_pos hP,if_pos hP];have hnone:bR T (i:Int)=none:=by rw [hg,if_neg hni]
   refine ⟨by rw [Et _ _ _ hnone,hl,List.length_append]; rfl,fun v=>?_⟩
   rw [rA,hg,hl]
   by_cases hv:v=i
   ·subst hv;rw [if_pos rfl,if_pos (by simp),List.idxOf_append,if_neg hni]; simp
   ·rw [if_neg (by omega)]
    by_cases hm:v ∈ qT x r g i
    ·rw [if_pos hm,if_pos (by simp [hm]),List.idxOf_append,if_pos hm]
    ·rw [if_neg hm,if_neg (by simp [hm,hv])]
  ·rw [if_neg hP,if_neg hP];exact ⟨hl,hg⟩
 ·unfold n7
  dsimp only
  rw [aU (by decide)]; rfl
theorem Ek {n s:Nat} (hs:s≤64) (hn:64<n) (T:List (Int × Int)) (hT:T.length=s):∃ L,bH (pt n s T) n ((List.replicate s ([]:List (Bool × List Nat))),0)=some L∧sC s L fun _ _=>0:=by
 have:=jK (body:=pt n s T) s (fun (l:List (List (Bool × List Nat))) (v:Int)=>(l,v)) id (fun i l=>l.length=s∧∀ v,v<i→l[v]? = some (List.replicate s (false,[]))) (fun l i hi hI=>?_) (fun l _=>?_) (n:=n) (s:=List.replicate s []) ⟨by simp,fun v hv=>absurd hv (Nat.not_lt_zero _)⟩ (by omega)
 ·obtain ⟨L,h1,h2,h3⟩:=this;refine ⟨L,h1,h2,fun r hr=>⟨_,h3 r hr,by simp,fun c hc=>⟨false,[],by rw [List.getElem?_replicate,if_pos hc],Lg.zero⟩⟩⟩
 ·refine ⟨l.set i (List.replicate s (false,[])),?_,by rw [List.length_set]; exact hI.1,fun v hv=>?_⟩
  ·unfold pt
   dsimp only
   have e3:l[i]? = some (l[i]'(by rw [hI.1]; exact hi)):=List.getElem?_eq_getElem _
   rw [aP (by omega),ah,hT,cy (by omega),Int.toNat_natCast,fp (by omega),aR,aF hi,aR,Int.toNat_natCast,e3,ah,cy (by omega),bf (by omega)]
  ·by_cases hvi:v=i
   ·subst hvi; rw [List.getElem?_set_self (by rw [hI.1]; exact hi)]
   ·rw [List.getElem?_set_ne (fun e=>hvi e.symm)]; exact hI.2 v (by omega)
 ·unfold pt
  dsimp only
  rw [aU (by omega)]; rfl
end Go.Proofs.YtookeaakpiefjaaGreatDoor
end

section
namespace Go.Proofs.YtookeaakpiefjaaGreatDoor
open Go Go.Ab Go.Ab.W Go.Ab.T30
def xT (n y6778:Nat) (l6559:List (Int × Int)) (v w c:Int) (l22533:List (List (Bool × List Nat))):Option (List (List (Bool × List Nat))) :=
ob (some ((bR l6559 v).getD (0:Int),(bR l6559 v).isSome)) fun (y30052,y30054) =>
ob (some ((bR l6559 w).getD (0:Int),(bR l6559 w).isSome)) fun (y30055,y30057) =>
ob (
br (y30054) (
some y30057) (
some false)) fun v30059 =>
br (v30059) (
gd (bD y30052 ((y6778:Int).toNat)) (
ob (l22533[y30052.toNat]?) fun l30065 =>
gd (decide (0<l30065.length)) (
gd (bD y30052 ((y6778:Int).toNat)) (
ob (l22533[y30052.toNat]?) fun l30071 =>
gd (decide (0<l30071.length)) (
gd (bD y30055 l30071.length) (
ob (l30071[y30055.toNat]?) fun (x30077,l30078) =>
ob (vC n c) fun (r30083,l30084) =>
ob (oj n x30077 l30078 r30083 l30084) fun (r30089,l30090) =>
gd (bD y30055 l30065.length) (
gd (Nat.blt y30055.toNat l30065.length) (
some (l22533.set y30052.toNat (l30065.set y30055.toNat (r30089,l30090))))))))))) (
some l22533)
theorem vv (n:Nat) (es:List (Int × Int)) (x:Nat) (p:List Int) (O:List (Int × Bool)) (T:List (Int × Int)) (s:Nat) (i:Int) (L:List (List (Bool × List Nat))) :
  so n es x p.length p O T s (i,L)=br (decide (i<(es.length:Int))) (gd (bD i es.length) (ob (es[i.toNat]?) fun e=>ob (ob (Hk n x e.1 e.2) fun q=>br q
   (ob (ob (ob (bH (zA n p.length p) n e.1) fun v=>some v) fun va=>ob (ob (bH (zR n p.length p) n e.2) fun v=>some v) fun vb =>
    ob (ob (some ((bR O i).getD false)) fun y=>br y (some true) (some (decide (va=vb)))) fun t=>br t (some L)
     (ob (xT n s T va va 1 L) fun L1=>ob (xT n s T vb vb 1 L1) fun L2=>ob (xT n s T va vb (-1) L2) fun L3=>ob (xT n s T vb va (-1) L3) fun L4=>some L4)) fun L5=>some L5)
   (some L)) fun L6=>some (.inl (IntKind.wrap .i64 (i+1),L6)))) (some (.inr L)):=rfl
theorem pa {n s:Nat} (hn:100<n) {P:List Nat} (hP:P.length=s) {T:List (Int × Int)} (hT:∀ v:Nat,bR T (v:Int)=if v ∈ P then some ((P.idxOf v:Nat):Int) else none)
  {L:List (List (Bool × List Nat))} {M:Mt} {B:Nat} (hL:sC s L M) (hM:∀ r c,r<s→c<s→(M r c).natAbs≤B) (hB:B<1000) {c:Int} {t:Bool} {k:List Nat} (hc:vC n c=some (t,k)) (hg:Lg c t k) (hc1:c.natAbs≤1) (v w:Nat) :
  ∃ L',xT n s T (v:Int) (w:Int) c L=some L'∧sC s L' (fun a b=>M a b+if a=P.idxOf v∧b=P.idxOf w then c else 0)∧∀ r c',r<s→c'<s→(M r c'+if r=P.idxOf v∧c'=P.idxOf w then c else 0).natAbs≤B+1:=by
 have hbd:∀ r c',r<s→c'<s→(M r c'+if r=P.idxOf v∧c'=P.idxOf w then c else 0).natAbs≤B+1:=fun r c' h1 h2=>by
  have:=hM r c' h1 h2
  split <;> omega
 by_cases h:v ∈ P∧w ∈ P
 ·have hv:P.idxOf v<s:=by rw [← hP]; exact List.idxOf_lt_length_iff.2 h.1
  have hw:P.idxOf w<s:=by rw [← hP]; exact List.idxOf_lt_length_iff.2 h.2
  obtain ⟨row,t1,k1,a1,a2,a3,a4⟩:=hL.at hv hw;have l1:k1.length≤1:=a4.len (by have:=hM _ _ hv hw; show _<18446744073709551616; omega)
  have l2:k.length≤1:=hg.len (by show _<18446744073709551616; omega)
  obtain ⟨u,q,u1,u2⟩:=A1 (n:=n) a4 hg (by omega) (by omega) (by omega)
  refine ⟨L.set (P.idxOf v) (row.set (P.idxOf w) (u,q)),?_,(hL.set hv hw a1 u2).congr fun a b _ _=>?_,hbd⟩
  ·unfold xT;rw [hT v,hT w,if_pos h.1,if_pos h.2];simp only [Option.getD_some,Option.isSome_some,ah,cd,Int.toNat_natCast];rw [aF hv,aR,a1,ah,cy (by omega),aR,ah,cy (by omega),a2,aF hw,aR,a3,ah]
   dsimp only
   rw [hc,ah]
   dsimp only
   rw [u1,ah]
   dsimp only
   rw [aR,DP hw,aR]
  ·by_cases h1:a=P.idxOf v∧b=P.idxOf w
   ·rw [if_pos h1,if_pos h1,h1.1,h1.2]
   ·rw [if_neg h1,if_neg h1,Int.add_zero]
 ·refine ⟨L,?_,hL.congr fun a b ha hb=>?_,hbd⟩
  ·unfold xT;rw [hT v,hT w]
   by_cases hv:v ∈ P
   ·have hw:w ∉ P:=fun e=>h ⟨hv,e⟩;rw [if_pos hv,if_neg hw]; rfl
   ·rw [if_neg hv]
    by_cases hw:w ∈ P
    ·rw [if_pos hw]; rfl
    ·rw [if_neg hw]; rfl
  ·have h1:¬ (a=P.idxOf v∧b=P.idxOf w):=fun e=>h ⟨List.idxOf_lt_length_iff.1 (by rw [← e.1,hP]; exact ha),List.idxOf_lt_length_iff.1 (by rw [← e.2,hP]; exact hb)⟩
   rw [if_neg h1,Int.add_zero]
def ki (es:List (Int × Int)) (x:Nat) (O:List (Int × Bool)) (i:Nat):Bool:=hZ es x (i:Int) && !(bR O (i:Int)).getD false
def kl (es:List (Int × Int)) (x:Nat) (O:List (Int × Bool)) (i:Nat):List (Nat × Nat):=((List.range i).filter (ki es x O)).map fun (k:Nat)=>eg es (k:Int)
theorem It (es:List (Int × Int)) (x:Nat) (O:List (Int × Bool)) (i:Nat):kl es x O (i+1)=if ki es x O i then kl es x O i++[eg es (i:Int)] else kl es x O i:=by
 unfold kl;rw [List.range_succ,List.filter_append,List.filter_cons]
 split <;> simp
theorem CC (es:List (Int × Int)) (x:Nat) (O:List (Int × Bool)) (i:Nat):(kl es x O i).length≤i:=by
 unfold kl;rw [List.length_map];have:=List.length_filter_le (ki es x O) (List.range i);rwa [List.length_range] at this
theorem tQ (φ:Nat→Nat) (e:Nat × Nat) (a b:Nat):∀ E,ia φ (E++[e]) a b=ia φ E a b+dl φ e a*dl φ e b
 | []=>by simp [ia]
 | d::E=>by
  rw [List.cons_append];simp only [ia];rw [tQ φ e a b E];omega
theorem Iv (φ:Nat→Nat) (e:Nat × Nat) (a:Nat):dl φ e a=0∨dl φ e a=1∨dl φ e a = -1:=by
 unfold dl
 split <;> split <;> simp
theorem zf (φ:Nat→Nat) (a b:Nat):∀ E,(ia φ E a b).natAbs≤E.length
 | []=>by simp [ia]
 | d::E=>by
  have:=zf φ a b E;simp only [ia,List.length_cons];rcases Iv φ d a with h | h | h <;> rcases Iv φ d b with h' | h' | h' <;> rw [h,h'] <;> omega
theorem Ge (m:Int) {p q u w:Prop} [Decidable p] [Decidable q] [Decidable u] [Decidable w] :
  m+(if p∧u then 1 else 0)+(if q∧w then 1 else 0)+(if p∧w then -1 else 0)+(if q∧u then -1 else 0)=m+((if p then 1 else 0)-(if q then 1 else 0))*((if u then 1 else 0)-(if w then 1 else 0)):=by
 by_cases hp:p <;> by_cases hq:q <;> by_cases hu:u <;> by_cases hw:w <;> simp [hp,hq,hu,hw] <;> try omega
theorem EK {N:Nat} {es:List (Int × Int)} (h:Okay N es) {n x:Nat} (hx:x<2 ^ 64) (hn:200<n) {p:List Int} {r:Nat→Nat} (hp:Fst p r) (O:List (Int × Bool))
  {P:List Nat} {s:Nat} (hP:P.length=s) {T:List (Int × Int)} (hT:∀ v:Nat,bR T (v:Int)=if v ∈ P then some ((P.idxOf v:Nat):Int) else none)
  {L:List (List (Bool × List Nat))} (hL:sC s L fun _ _=>0) :
  ∃ L',bH (so n es x p.length p O T s) n (0,L)=some L'∧sC s L' (ia (fun v=>P.idxOf (r v)) (kl es x O es.length)):=by
 have hlen:=h.len;refine jK (body:=so n es x p.length p O T s) es.length (fun (l:List (List (Bool × List Nat))) (v:Int)=>(v,l)) id (fun i l=>sC s l (ia (fun v=>P.idxOf (r v)) (kl es x O i))) (fun l i hi hI=>?_) (fun l _=>?_) (n:=n) hL (by omega)
 ·obtain ⟨a,b,g1,g2,g3,g4,_,g5⟩:=gV h (k:=(i:Int)) ⟨by omega,by omega⟩
  rw [Int.toNat_natCast] at g1;have ha:a<64:=by omega
  have hin:hZ es x (i:Int)=(x.testBit a && x.testBit b):=by
   simp only [hZ,g2];rw [decide_eq_true ⟨by omega,by omega⟩,Bool.true_and]
  rw [vv,aP (by omega),aF hi,aR,Int.toNat_natCast,g1,ah]
  dsimp only
  rw [qv n x a b hx ha g4,ah,bf (by omega)]
  rw [It];unfold ki;rw [hin,g2]
  by_cases h3:(x.testBit a && x.testBit b)=true
  ·rw [h3,cd,CB,E0,hp.root n a n ha (by omega),hp.root n b n g4 (by omega)]
   simp only [ah,Bool.true_and]
   by_cases h4:(bR O (i:Int)).getD false=true
   ·rw [h4,cd,ah,cd,ah,ah];exact ⟨l,rfl,hI⟩
   ·rw [Bool.not_eq_true] at h4;rw [h4,cF,ah,Bool.not_false,if_pos rfl]
    by_cases h5:r a=r b
    ·rw [aP (by omega),ah,ah]
     refine ⟨l,rfl,hI.congr fun c d _ _=>?_⟩;rw [tQ];simp [dl,h5]
    ·rw [aU (by omega)]
     have hM:∀ c d,c<s→d<s→(ia (fun v=>P.idxOf (r v)) (kl es x O i) c d).natAbs≤200:=fun c d _ _=>by
      have h1:=zf (fun v=>P.idxOf (r v)) c d (kl es x O i);have h2:=CC es x O i;omega
     obtain ⟨L1,m1,n1,b1⟩:=pa (n:=n) (by omega) hP hT hI hM (by omega) (ux (by omega)) yw (by decide) (r a) (r a)
     obtain ⟨L2,m2,n2,b2⟩:=pa (n:=n) (by omega) hP hT n1 b1 (by omega) (ux (by omega)) yw (by decide) (r b) (r b)
     obtain ⟨L3,m3,n3,b3⟩:=pa (n:=n) (by omega) hP hT n2 b2 (by omega) (A3 (by omega)) EZ (by decide) (r a) (r b)
     obtain ⟨L4,m4,n4,b4⟩:=pa (n:=n) (by omega) hP hT n3 b3 (by omega) (A3 (by omega)) EZ (by decide) (r b) (r a)
     refine ⟨L4,by rw [m1,ah,m2,ah,m3,ah,m4,ah,ah,ah],n4.congr fun c d _ _=>?_⟩
     rw [tQ];exact Ge _
  ·rw [Bool.not_eq_true] at h3;rw [h3,cF,ah];exact ⟨l,rfl,hI⟩
 ·rw [vv,aU (by omega)]; rfl
end Go.Proofs.YtookeaakpiefjaaGreatDoor
end

section
namespace Go.Proofs.YtookeaakpiefjaaGreatDoor
open Go Go.Ab Go.Ab.W Go.Ab.T30
theorem su {f:Nat→Int} {C:Nat}:∀ n,(∀ i,i<n→(f i).natAbs≤C)→(sm n f).natAbs≤n*C
 | 0,_=>by simp [sm]
 | n+1,h=>by
  have h1:=su n fun i hi=>h i (by omega)
  have h2:=h n (by omega)
  simp only [sm];rw [Nat.add_mul,Nat.one_mul];omega
theorem BE (i:Nat) (x:Int):(sg i*x).natAbs=x.natAbs:=by
 unfold sg
 split <;> simp
theorem CV {C N:Nat}:∀ (n:Nat) (A:Mt),n≤N→(∀ r c,r<n→c<n→(A r c).natAbs≤C)→(cj n A).natAbs≤(N*C) ^ n
 | 0,_,_,_=>by simp [cj]
 | n+1,A,hn,h=>by
  simp only [cj];have:=su (C:=C*(N*C) ^ n) (n+1) (f:=fun i=>sg i*(A i 0*cj n (nu A i))) fun i hi=>by
   rw [BE,Int.natAbs_mul];exact Nat.mul_le_mul (h i 0 hi (by omega)) (CV n (nu A i) (by omega) fun r c hr hc=>h _ _ (yf hr) (by omega))
  refine Nat.le_trans ?_ (Nat.le_trans this ?_)
  ·refine Nat.le_of_eq (congrArg Int.natAbs (gh fun i _=>?_));simp only [Int.mul_assoc]
  ·rw [Nat.pow_succ,Nat.mul_comm ((N*C) ^ n),← Nat.mul_assoc];exact Nat.mul_le_mul_right _ (Nat.mul_le_mul_right _ hn)
theorem Bf (φ:Nat→Nat) (E:List (Nat × Nat)) (hE:E.length≤200) {k r c:Nat} (hk:k<64):(cj (k+1) (jw (ia φ E) k r c)).natAbs<wp 15:=by
 have h1:=CV (C:=200) (N:=64) (k+1) (jw (ia φ E) k r c) (by omega) fun a b _ _=>Nat.le_trans (zf φ _ _ E) hE
 have h2:(64*200) ^ (k+1)≤(64*200) ^ 64:=Nat.pow_le_pow_right (by decide) (by omega)
 have h3:(64*200) ^ 64<wp 15:=by decide
 omega
theorem zW (x:Nat) (r:Nat→Nat) (g:Nat):(qT x r g 64).length≤64:=by
 unfold qT;have:=List.length_filter_le (IT x r g) (List.range 64);rwa [List.length_range] at this
def rW (es:List (Int × Int)) (x:Nat) (W:List (Int × Bool)):Nat→Nat:=(wl es x W 0 es.length).foldl bg fun x=>x
def pW (es:List (Int × Int)) (x:Nat) (W:List (Int × Bool)):List Nat:=qT x (rW es x W) (rW es x W (tz x)) 64
def mW (es:List (Int × Int)) (x:Nat) (W O:List (Int × Bool)):Mt:=ia (fun v=>(pW es x W).idxOf (rW es x W v)) (kl es x O es.length)
theorem Ks {N:Nat} {es:List (Int × Int)} (h:Okay N es) {n x:Nat} (hx:x<2 ^ 64) (h0:0<x) (hn:300<n) (x1:Int) (W O:List (Int × Bool)) :
  (bZ (fun x=>x) (wl es x W 0 es.length)=false→Ax n x1 es x W O=some (false,[])) ∧
  (bZ (fun x=>x) (wl es x W 0 es.length)=true→(∀ k,k<(pW es x W).length→(cj k (mW es x W O)).natAbs<18446744073709551616) →
   ∃ t q,Ax n x1 es x W O=some (t,q)∧Lg (I2 (pW es x W).length 0 (mW es x W O) 1) t q):=by
 have hlen:=h.len;obtain ⟨p0,f1,f2⟩:=F0 n (by omega)
 have f3:=CN h hx (show 64<n by omega) W es.length 0 n p0 (fun x=>x) [] (by omega) (by omega) f2 Rt.id
 have hF:LC n x=some ((tz x:Nat):Int):=by unfold LC; rw [cy hx]
 have htz:tz x<64:=rE hx (sG h0 hx).1;refine ⟨fun ha=>?_,fun ha hP=>?_⟩
 ·obtain ⟨p',k,g1⟩:=f3.2 ha;unfold Ax;rw [f1,ah,ah];rw [show (0:Int)=((0:Nat):Int) from rfl,g1]
  rfl
 ·obtain ⟨p,E',g1,hp,hr⟩:=f3.1 ha
  change Fst p (rW es x W) at hp
  clear hr;obtain ⟨T,t1,t2,t3⟩:=ET (n:=n) hx (by omega) hp (rW es x W (tz x))
  obtain ⟨L,l1,l2⟩:=Ek (n:=n) (zW x (rW es x W) (rW es x W (tz x))) (by omega) T t2
  obtain ⟨L',m1,m2⟩:=EK h hx (by omega:200<n) hp O rfl t3 l2
  have hs:=zW x (rW es x W) (rW es x W (tz x));have hD:∀ k r c,k<(pW es x W).length→r<(pW es x W).length→c<(pW es x W).length→(cj (k+1) (jw (mW es x W O) k r c)).natAbs<wp 15:=fun k r c hk _ _=>Bf _ _ (Nat.le_trans (CC _ _ _ _) hlen) (Nat.lt_of_lt_of_le hk hs);obtain ⟨t,q,h1,h2⟩:=BB (n:=n) (by omega) hs hD hP (pW es x W).length 0 n L' (mW es x W O) 1 false [1] (Nat.add_zero _) (Nat.lt_of_le_of_lt hs (by omega)) m2 (Bar.start _ _) yw
  refine ⟨t,q,?_,h2⟩;unfold Ax;rw [f1,ah,ah];rw [show (0:Int)=((0:Nat):Int) from rfl,g1]
  dsimp only [ah]
  rw [hF,ah,EH,hp.root n (tz x) n htz (by omega)]
  dsimp only [ah,Option.map_some]
  have t1':bH (n7 n x p.length p ((rW es x W (tz x):Nat):Int)) n (([]:List (Int × Int)),((0:Nat):Int))=some T:=t1;rw [t1',ah,t2,cy (by omega),Int.toNat_natCast,fp (by omega),aR]
  have l1':bH (pt n (qT x (rW es x W) (rW es x W (tz x)) 64).length T) n (List.replicate (qT x (rW es x W) (rW es x W (tz x)) 64).length ([]:List (Bool × List Nat)),((0:Nat):Int))=some L:=l1;rw [l1',ah];have m1':bH (so n es x p.length p O T (qT x (rW es x W) (rW es x W (tz x)) 64).length) n (((0:Nat):Int),L)=some L':=m1;rw [m1',ah,ah,ux (by omega),ah]
  have h1':bH (hJ n (qT x (rW es x W) (rW es x W (tz x)) 64).length) n (L',false,[1],((0:Nat):Int))=some (.inl (t,q))∨bH (hJ n (qT x (rW es x W) (rW es x W (tz x)) 64).length) n (L',false,[1],((0:Nat):Int))=some (.inr (t,q)):=h1;rcases h1' with h1 | h1 <;> rw [h1] <;> rfl
end Go.Proofs.YtookeaakpiefjaaGreatDoor
end

section
namespace Go.Proofs.YtookeaakpiefjaaGreatDoor
open Go Go.Ab Go.Ab.W Go.Ab.T30
theorem zw {l:List Nat} {a b:Nat} (ha:a ∈ l) (h:l.idxOf a=l.idxOf b):a=b:=by
 have h1:l.idxOf a<l.length:=List.idxOf_lt_length_iff.2 ha;have e1:l[l.idxOf a]? = some a:=by rw [List.getElem?_eq_getElem h1,List.getElem_idxOf]
 have h2:l.idxOf b<l.length:=by rw [← h]; exact h1
 have e2:l[l.idxOf b]? = some b:=by rw [List.getElem?_eq_getElem h2,List.getElem_idxOf]
 rw [h,e2] at e1;exact (Option.some.inj e1).symm
theorem xV {l:List Nat} {a:Nat}:l.idxOf a≤l.length:=List.idxOf_le_length
def kx (es:List (Int × Int)) (x:Nat) (O:List (Int × Bool)):List Int:=((List.range es.length).filter (ki es x O)).map fun (k:Nat)=>(k:Int)
theorem C6 (es:List (Int × Int)) (x:Nat) (O:List (Int × Bool)):(kx es x O).map (eg es)=kl es x O es.length:=by
 unfold kx kl;rw [List.map_map]; rfl
theorem JP {es:List (Int × Int)} {x:Nat} {O:List (Int × Bool)} {k:Int} (h:k ∈ kx es x O):hZ es x k=true:=by
 obtain ⟨m,h1,rfl⟩:=List.mem_map.1 h;have:=(List.mem_filter.1 h1).2;unfold ki at this;rw [Bool.and_eq_true] at this;exact this.1
theorem zv {N:Nat} {es:List (Int × Int)} (h:Okay N es) {x:Nat} {k:Int} (hk:hZ es x k=true):(eg es k).1 ∈ eF x 64∧(eg es k).2 ∈ eF x 64:=by
 obtain ⟨h1,h2,h3⟩:=tY hk;obtain ⟨a,b,_,e,e1,e2,_⟩:=gV h h1;rw [e] at h2 h3 ⊢;exact ⟨dx.2 ⟨by omega,h2⟩,dx.2 ⟨e2,h3⟩⟩
theorem Ft {N:Nat} {es:List (Int × Int)} (h:Okay N es) {x:Nat} {W:List (Int × Bool)} {i j:Nat}:∀ e ∈ wl es x W i j,e.1 ∈ eF x 64∧e.2 ∈ eF x 64:=fun e he=>by
 obtain ⟨m,h1,rfl⟩:=List.mem_map.1 he;have:=(List.mem_filter.1 h1).2;unfold wi at this;rw [Bool.and_eq_true] at this;exact zv h this.1
section
variable {N : Nat} {es : List (Int × Int)} {x : Nat} {W O : List (Int × Bool)}
theorem Iz:Rt (rW es x W) (wl es x W 0 es.length).reverse:=uc _
theorem yK (h:Okay N es) {v:Nat} (hv:v ∈ eF x 64):rW es x W v ∈ eF x 64:=(ie (nf x) (Ft h)).2 v hv
theorem qq (hx:x<2 ^ 64) (h0:0<x):tz x ∈ eF x 64:=dx.2 ⟨rE hx (sG h0 hx).1,(sG h0 hx).1⟩
theorem D3 {v:Nat}:v ∈ pW es x W↔v ∈ eF x 64∧rW es x W v=v∧v≠rW es x W (tz x):=by
 unfold pW qT IT;rw [List.mem_filter,List.mem_range,dx];simp [and_assoc]
theorem Dj (h:Okay N es) (hx:x<2 ^ 64) (h0:0<x):iy (eF x 64) (rW es x W)=(pW es x W).length+1:=by
 have hg:=yK (W:=W) h (qq hx h0);have hrr:=(Iz (es:=es) (x:=x) (W:=W)).rr (tz x);have e1:iy (eF x 64) (rW es x W)=((List.range 64).filter fun v=>x.testBit v && rW es x W v == v).length:=by
  unfold iy eF;rw [List.filter_filter]
  congr 2
  funext v
  exact Bool.and_comm _ _
 rw [e1];unfold pW qT;refine jC (a:=rW es x W (tz x)) List.nodup_range (List.mem_range.2 (dx.1 hg).1) ?_ fun v=>?_
 ·simp [(dx.1 hg).2,hrr]
 ·unfold IT;simp
theorem yc (h:Okay N es) (hx:x<2 ^ 64) (h0:0<x) (ha:bZ (fun x=>x) (wl es x W 0 es.length)=true):(pW es x W).length+1+(wl es x W 0 es.length).length=rk x 64:=by
 have h1:=(ie (nf x) (Ft (W:=W) (i:=0) (j:=es.length) h)).1;have h2:=(mS (wl es x W 0 es.length) fun x=>x).2 ha;rw [h2] at h1;have h3:=Dj (W:=W) h hx h0;unfold rk;have e:rep (wl es x W 0 es.length)=rW es x W:=rfl;rw [e] at h1;omega
theorem Js (h:Okay N es) {v w:Nat} (hv:v ∈ eF x 64) (hw:w ∈ eF x 64):rW es x W v=rW es x W w↔(pW es x W).idxOf (rW es x W v)=(pW es x W).idxOf (rW es x W w):=by
 refine ⟨fun e=>by rw [e],fun e=>?_⟩
 have hrr:=fun v=>(Iz (es:=es) (x:=x) (W:=W)).rr v
 by_cases h1:rW es x W v ∈ pW es x W
 ·exact zw h1 e
 ·by_cases h2:rW es x W w ∈ pW es x W
  ·exact (zw h2 e.symm).symm
  ·have g1:rW es x W v=rW es x W (tz x):=Classical.byContradiction fun hc=>h1 (D3.2 ⟨yK h hv,hrr v,hc⟩);have g2:rW es x W w=rW es x W (tz x):=Classical.byContradiction fun hc=>h2 (D3.2 ⟨yK h hw,hrr w,hc⟩);rw [g1,g2]
theorem Mk (s:Nat):dg s (fun i=>i)=s:=by
 unfold dg;rw [List.filter_eq_self.2 (fun i _=>by simp)]
 exact List.length_range
theorem yb (h:Okay N es) {n:Nat} (hx:x<2 ^ 64) (h0:0<x) (hn:300<n) (x1:Int) (hk:(kx es x O).length≤63) :
  (bZ (fun x=>x) (wl es x W 0 es.length)=false→Ax n x1 es x W O=some (false,[])) ∧
  (bZ (fun x=>x) (wl es x W 0 es.length)=true→∃ t q,Ax n x1 es x W O=some (t,q)∧Lg ((gw es (kx es x O) (pW es x W).length (rW es x W)).length:Int) t q):=by
 have hF:=Ks h hx h0 hn x1 W O;refine ⟨hF.1,fun ha=>?_⟩;have hkl:(kl es x O es.length).length≤63:=by rw [← C6,List.length_map]; exact hk
 obtain ⟨t,q,h1,h2⟩:=hF.2 ha fun k _=>by
  have:=BU (fun v=>(pW es x W).idxOf (rW es x W v)) (kl es x O es.length) k;have h3:2 ^ (kl es x O es.length).length≤2 ^ 63:=Nat.pow_le_pow_right (by decide) hkl
  unfold mW;omega
 refine ⟨t,q,h1,?_⟩;have e1:I2 (pW es x W).length 0 (mW es x W O) 1=_:=Gg (fun v=>(pW es x W).idxOf (rW es x W v)) (kl es x O es.length) (pW es x W).length fun e _=>⟨xV,xV⟩;have e2:=yj (es:=es) (V:=fun v=>v ∈ eF x 64) (s:=(pW es x W).length) (ψ:=fun v=>(pW es x W).idxOf (rW es x W v)) (fun v _=>xV) (kx es x O) (rW es x W) (fun i=>i) (Rho.id _) (fun v w hv hw=>Js h hv hw) (fun k hk=>zv h (JP hk));rw [Mk,C6] at e2;rw [e1,← e2] at h2;exact h2
end
end Go.Proofs.YtookeaakpiefjaaGreatDoor
end

section
namespace Go.Proofs.YtookeaakpiefjaaGreatDoor
open Go Go.Ab Go.Ab.W Go.Ab.T30
theorem MB (m:Nat):IL (m+20) false []=some (0,0,0,0,0,0,0,0,0):=by rfl
theorem MP (m c:Nat):IL (m+20) false [c]=some (c,0,0,0,0,0,0,0,0):=by rfl
theorem xU {n c:Nat} (hn:20≤n) (hc:c<18446744073709551616) {t:Bool} {q:List Nat} (h:Lg (c:Int) t q):IL n t q=some (c,0,0,0,0,0,0,0,0):=by
 obtain ⟨m,rfl⟩:∃ m,n=m+20:=⟨n-20,by omega⟩
 have ht:=h.BY;rw [decide_eq_false (by omega)] at ht
 subst ht
 by_cases h0:c=0
 ·subst h0;rw [(h.N6).2 rfl];exact MB m
 ·have:=h.M0 (by omega) (by simpa using hc)
  rw [this];exact MP m c
theorem Ah {n:Nat} (hn:20≤n) {c:Nat} (hc:c<4294967296):FG n (c:Int)=some (false,if c=0 then [] else [(c:Int)]):=by
 obtain ⟨m,rfl⟩:∃ m,n=m+20:=⟨n-20,by omega⟩
 have e1:ui .u64 (c:Int)=c:=by
  show ((c:Int)%((2 ^ 64:Nat):Int)).toNat=c
  omega
 have e2:uw .u64 (c/4294967296)=0:=by rw [Nat.div_eq_of_lt hc]; rfl
 unfold FG;rw [aU (by omega),ah,e1,e2,Nat.mod_eq_of_lt hc,decide_eq_false (by omega)]
 rw [aK (by omega) (by omega)]
 by_cases h0:c=0
 ·subst h0; rfl
 ·rw [if_neg h0];unfold oc me;have st1:hY (m+20) [(c:Int),IntKind.wrap .i64 ((0:Nat):Int)] 2=some (.inl 1):=rfl;have st2:hY (m+20) [(c:Int),IntKind.wrap .i64 ((0:Nat):Int)] 1=some (.inr 1):=by
   unfold hY;rw [aP (by decide)]
   show ob (ob (some (decide ((c:Int)=0))) fun v64=>some v64) _=_
   rw [decide_eq_false (by omega)]; rfl
  have e3:(([(c:Int),IntKind.wrap .i64 ((0:Nat):Int)].length:Nat):Int)=2:=rfl;rw [e3,aY st1,aZ st2]; rfl
theorem Il (m:Nat):IE (m+20) false []=some (0,0,0,0,0,0,0,0,0):=by rfl
theorem AU {n:Nat} (hn:20≤n) {c:Nat} (hc:c<4294967296):IE n false [(c:Int)]=some (c,0,0,0,0,0,0,0,0):=by
 obtain ⟨m,rfl⟩:∃ m,n=m+20:=⟨n-20,by omega⟩
 have e1:ui .u64 (c:Int)=c:=by
  show ((c:Int)%((2 ^ 64:Nat):Int)).toNat=c
  omega
 have e4:uw .u64 (0+fJ .u64 (ui .u64 (c:Int)) (IntKind.wrap .i64 (32*(Int.tmod 0 2))).toNat)=c:=by
  have e2:(IntKind.wrap .i64 (32*(Int.tmod 0 2))).toNat=0:=rfl;rw [e2,e1,o7 (by omega),Nat.pow_zero,Nat.mul_one,Nat.zero_add,np (a:=c) (by omega),np (a:=c) (by omega)]
 have st1:wx (m+20) [(c:Int)] (([0,0,0,0,0,0,0,0]:List (Nat)),0)=some (.inl ([c,0,0,0,0,0,0,0],1)):=by
  show (some (Sum.inl (([0,0,0,0,0,0,0,0]:List Nat).set 0 (uw .u64 (0+fJ .u64 (ui .u64 (c:Int)) (IntKind.wrap .i64 (32*(Int.tmod 0 2))).toNat)),(1:Int))):Option ((List Nat × Int) ⊕ List Nat))=_
  rw [e4]; rfl
 have st2:wx (m+20) [(c:Int)] (([c,0,0,0,0,0,0,0]:List (Nat)),1)=some (.inr [c,0,0,0,0,0,0,0]):=rfl
 show (ob (bH (wx (m+20) [(c:Int)]) (m+20) (([0,0,0,0,0,0,0,0]:List (Nat)),0)) fun l99=>ob (Jq l99) fun (x116,x117,x118,x119,x120,x121,x122,x123)=>some (x116,x117,x118,x119,x120,x121,x122,x123,(0:Int)))=_
 rw [aY st1,aZ st2]; rfl
theorem KC {n:Nat} (hn:20≤n) {c:Nat} (hc:c<4294967296):Lr n (c:Int)=some (c,0,0,0,0,0,0,0):=by
 unfold Lr;rw [Ah hn hc,ah]
 by_cases h0:c=0
 ·subst h0;obtain ⟨m,rfl⟩:∃ m,n=m+20:=⟨n-20,by omega⟩
  rw [if_pos rfl]
  dsimp only
  rw [Il]; rfl
 ·rw [if_neg h0]
  dsimp only
  rw [AU hn hc]; rfl
theorem DG (n:Nat) (N:Int) (es:List (Int × Int)) (x:Nat) (hx:x<2 ^ 64) (hl:es.length<4611686018427387904) (hk:es.length<n) (hn:2<n):Li n N es x=some (FJ N es x):=by
 unfold Li FJ;rw [Im n N es hn hl hk,ah]
 by_cases hok:m9 N es=true
 ·obtain ⟨M,rfl,hO⟩:=kh hok;simp only [FC,hok,if_true,decide_true,Bool.not_true,cF]
  by_cases h0:x=0
  ·simp [h0,br,ob]
  ·rw [aU h0,zx n x hx,ah,ah]
   by_cases h2:2 ^ M≤x
   ·have:M<bl x:=mA.2 h2;rw [decide_eq_true (show ((M:Nat):Int)<((bl x:Nat):Int) by omega),cd,if_pos (.inr (by simpa using h2))]
   ·have:¬ M<bl x:=fun g=>h2 (mA.1 g);rw [decide_eq_false (show ¬ ((M:Nat):Int)<((bl x:Nat):Int) by omega),cF,if_neg (by simp [h0]; simpa using h2)]
 ·rw [Bool.not_eq_true] at hok;simp [FC,hok,br]
def er (es:List (Int × Int)) (x:Nat):List (List Int):=gw es (il es x 0 es.length) (rk x 64-1) fun x=>x
theorem E7 {M:Nat} {es:List (Int × Int)} {x:Nat} (hok:m9 (M:Int) es=true) (hO:Okay M es) {n:Nat} (hx:x<2 ^ 64) (h0:x≠0) (hn:300<n) (hr:rk x 64≤9) :
  Ld n (M:Int) es x=some (er es x)∧(er es x).length≤1073741824:=by
 have hB:∀ i d,d≤8→cb (inc es x i) d≤1073741824:=fun i d hd=>DA (j7 hok hO hr i) hd;have h1:=FY hx h0;have hg:=Hv hO hx h0 n hn hB hr (rk x 64-1) [] n (by simp; omega) (fun y hy=>by cases hy) (by omega)
 have e1:(gw es (il es x (FH []) (es.length-FH [])) (rk x 64-1) (rep (([]:List Int).map (eg es)))).map (([]:List Int)++·)=er es x:=by
  have:(fun l:List Int=>([]:List Int)++l)=id:=by funext l; rfl
  rw [this,List.map_id]; rfl
 rw [e1] at hg;refine ⟨?_,?_⟩
 ·unfold Ld Ju;rw [hg]; rfl
 ·refine Nat.le_trans (zZ es _ _ _) ?_;rw [pw es x es.length 0 (by omega)]
  exact hB 0 _ (by omega)
theorem xO (es:List (Int × Int)) (x:Nat):kx es x []=il es x 0 es.length:=by
 unfold kx il;rw [List.range_eq_range']
 congr 1
 refine List.filter_congr fun k _=>?_;unfold ki;simp [bR,cq]
theorem tG (es:List (Int × Int)) (x i j:Nat):wl es x [] i j = []:=by
 unfold wl;rw [List.filter_eq_nil_iff.2 fun k _=>by unfold wi; simp [bR,cq]]; rfl
theorem Dw {N:Int} {es:List (Int × Int)} {x n:Nat} (hx:x<2 ^ 64) (hl:es.length≤200) (hn:300<n) (hr:m9 N es=true→rk x 64≤9):∃ r,Lw n N es x=some r∧Mg n N es x=some r:=by
 unfold Lw Mg;rw [DG n N es x hx (by omega) (by omega) (by omega),Fj n N es x hx (by omega) (by omega),ah,ah]
 by_cases hc:FJ N es x=0
 ·rw [decide_eq_true hc,Bool.not_true,cF,cF];have hok:m9 N es=true:=by
   unfold FJ at hc
   by_cases h:m9 N es=true
   ·exact h
   ·rw [if_neg h] at hc; cases hc
  obtain ⟨M,rfl,hO⟩:=kh hok;have h0:x≠0:=fun e=>by
   unfold FJ at hc;rw [if_pos hok,if_pos (.inl e)] at hc;cases hc
  obtain ⟨g1,g2⟩:=E7 hok hO hx h0 hn (hr hok);have hk:(kx es x []).length≤63:=by
   rw [xO,pw es x es.length 0 (by omega)]
   have:=j7 hok hO (hr hok) 0;omega
  have hcnt:=(yb (W:=[]) (O:=[]) hO hx (by omega) hn (M:Int) hk).2 (by rw [tG]; rfl)
  obtain ⟨t,q,q1,q2⟩:=hcnt;have hp:=yc (W:=[]) hO hx (by omega) (by rw [tG]; rfl)
  rw [tG] at hp;have hp':(pW es x []).length=rk x 64-1:=by simp at hp; omega
  have hrW:rW es x []=fun x=>x:=by unfold rW; rw [tG]; rfl
  have hall:gw es (kx es x []) (pW es x []).length (rW es x [])=er es x:=by rw [hp',hrW,xO]; rfl
  rw [hall] at q2;refine ⟨((er es x).length,0,0,0,0,0,0,0,0),?_,?_⟩
  ·rw [q1,ah]
   dsimp only
   rw [xU (by omega) (by omega) q2]; rfl
  ·rw [g1,ah,KC (by omega) (by omega)]; rfl
 ·rw [decide_eq_false hc];exact ⟨_,rfl,rfl⟩
end Go.Proofs.YtookeaakpiefjaaGreatDoor
end
