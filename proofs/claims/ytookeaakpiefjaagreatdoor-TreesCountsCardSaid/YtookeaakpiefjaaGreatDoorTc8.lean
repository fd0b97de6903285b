/- Texts of the abstract machine and of the walks,joined: T30D5 T30D6 T30C9 T30D2 T30D3 T30D4 T30D7 T30Q9. -/
import Derived.Test.YtookeaakpiefjaaGreatDoorTc7
section
namespace Go.Proofs.YtookeaakpiefjaaGreatDoor
open Go Go.Ab Go.Ab.W Go.Ab.T30
def rl (v:Nat):List Int:=if v=0 then [] else [(v:Int)]
theorem gj {v:Nat} (h:v≠0):rl v = [(v:Int)]:=if_neg h
theorem pE {n:Nat} (hn:20≤n) (v:Nat):me n [(v:Int)]=some (rl v):=by
 obtain ⟨m,rfl⟩:∃ m,n=m+20:=⟨n-20,by omega⟩
 by_cases h:v=0
 ·subst h; rfl
 ·have st:hY (m+20) [(v:Int)] 1=some (.inr 1):=by
   unfold hY;rw [aP (by decide)]
   show ob (ob (some (decide ((v:Int)=0))) fun v64=>some v64) _=_
   rw [decide_eq_false (by omega)]; rfl
  unfold me;have e3:(([(v:Int)].length:Nat):Int)=1:=rfl;rw [e3,aZ st,gj h]; rfl
theorem Fw {n:Nat} (hn:20≤n) (v:Nat):me n [(v:Int),0]=some (rl v):=by
 obtain ⟨m,rfl⟩:∃ m,n=m+20:=⟨n-20,by omega⟩
 have st0:hY (m+20) [(v:Int),0] 2=some (.inl 1):=rfl
 by_cases h:v=0
 ·subst h; rfl
 ·have st:hY (m+20) [(v:Int),0] 1=some (.inr 1):=by
   unfold hY;rw [aP (by decide)]
   show ob (ob (some (decide ((v:Int)=0))) fun v64=>some v64) _=_
   rw [decide_eq_false (by omega)]; rfl
  unfold me;have e3:(([(v:Int),0].length:Nat):Int)=2:=rfl;rw [e3,aY st0,aZ st,gj h]; rfl
theorem Ai {n:Nat} (hn:20≤n) {v c:Nat} (hv:2*v+1<4294967296) (hc:c≤1):D7 n (rl v) (c:Int)=some (rl (2*v+c)):=by
 obtain ⟨m,rfl⟩:∃ m,n=m+20:=⟨n-20,by omega⟩
 by_cases h:v=0
 ·subst h;have:c=0∨c=1:=by omega
  rcases this with rfl | rfl <;> rfl
 ·rw [gj h];have e0:IntKind.wrap .i64 ((IntKind.wrap .i64 (2*(v:Int)))+(c:Int))=((2*v+c:Nat):Int):=by
   rw [aK (x:=2*(v:Int)) (by omega) (by omega),aK (by omega) (by omega)]; omega
  have st0:pN (m+20) [(v:Int)] ((c:Int),[],0)=some (.inl (0,[((2*v+c:Nat):Int)],1)):=by
   unfold pN
   dsimp only
   rw [aP (show (0:Int)<(([(v:Int)]:List Int).length:Int) by simp)]
   show (ob (some (Int.tmod (IntKind.wrap .i64 ((IntKind.wrap .i64 (2*(v:Int)))+(c:Int))) 4294967296)) fun y54=>gd (iB (([]:List Int)++[y54]).length) (ob (some (IntKind.wrap .i64 (Int.tdiv (IntKind.wrap .i64 ((IntKind.wrap .i64 (2*(v:Int)))+(c:Int))) 4294967296))) fun y59=>some (Sum.inl (y59,(([]:List Int)++[y54]),IntKind.wrap .i64 (0+1)))))=_
   rw [e0,Int.tmod_eq_emod_of_nonneg (by omega),Int.tdiv_eq_ediv_of_nonneg (by omega),ah]
   have e1:(((2*v+c:Nat):Int))%4294967296=((2*v+c:Nat):Int):=Int.emod_eq_of_lt (by omega) (by omega)
   have e2:(((2*v+c:Nat):Int))/4294967296=0:=Int.ediv_eq_zero_of_lt (by omega) (by omega)
   rw [e1,e2]; rfl
  have st1:pN (m+20) [(v:Int)] (0,[((2*v+c:Nat):Int)],1)=some (.inr (0,[((2*v+c:Nat):Int)])):=rfl;unfold D7;rw [aY st0,aZ st1,ah]
  show (ob (me (m+20) [((2*v+c:Nat):Int),0]) fun l67=>some l67)=_
  rw [Fw (by omega),ah]
theorem Gi {n:Nat} (hn:20≤n) {v b:Nat} (hv:v<4294967296) (hb:b<4294967296) (hb0:b≠0):∃ r,Cf n (rl v) [(b:Int)]=some r∧(0≤r↔b≤v):=by
 obtain ⟨m,rfl⟩:∃ m,n=m+20:=⟨n-20,by omega⟩
 by_cases h:v=0
 ·subst h;exact ⟨-1,rfl,by omega⟩
 ·rw [gj h]
  by_cases he:v=b
  ·subst he;have st0:lB (m+20) [(v:Int)] [(v:Int)] 0=some (.inl (-1)):=by
    show br (!decide ((v:Int)=(v:Int))) _ _=_
    rw [decide_eq_true rfl]; rfl
   have st1:lB (m+20) [(v:Int)] [(v:Int)] (-1)=some (.inr (.inr ())):=rfl;refine ⟨0,?_,by omega⟩
   show (ob (α:=(Int) ⊕ (Unit)) (bH (lB (m+20) [(v:Int)] [(v:Int)]) (m+20) 0) fun r43=>match r43 with | .inl v27=>some v27 | .inr _=>some 0)=_
   rw [aY st0,aZ st1]; rfl
  ·have st0:lB (m+20) [(v:Int)] [(b:Int)] 0=some (.inr (.inl (IntKind.wrap .i64 ((v:Int)-(b:Int))))):=by
    show br (!decide ((v:Int)=(b:Int))) (some (Sum.inr (Sum.inl (IntKind.wrap .i64 ((v:Int)-(b:Int)))))) _=_
    rw [decide_eq_false (by omega)]; rfl
   refine ⟨IntKind.wrap .i64 ((v:Int)-(b:Int)),?_,?_⟩
   ·show (ob (α:=(Int) ⊕ (Unit)) (bH (lB (m+20) [(v:Int)] [(b:Int)]) (m+20) 0) fun r43=>match r43 with | .inl v27=>some v27 | .inr _=>some 0)=_
    rw [aZ st0]; rfl
   ·rw [aK (by omega) (by omega)]; omega
theorem Ga {n:Nat} (hn:20≤n) {v b:Nat} (hv:v<4294967296) (hb:b≤v) (hb0:b≠0):xb n (rl v) [(b:Int)]=some (rl (v-b)):=by
 obtain ⟨m,rfl⟩:∃ m,n=m+20:=⟨n-20,by omega⟩
 rw [gj (by omega)]
 have e0:IntKind.wrap .i64 ((IntKind.wrap .i64 ((v:Int)-0))-(b:Int))=((v-b:Nat):Int):=by
  rw [Int.sub_zero,aK (x:=(v:Int)) (by omega) (by omega),aK (by omega) (by omega)]; omega
 have st0:ua (m+20) [(v:Int)] [(b:Int)] ([],0,0)=some (.inl ([((v-b:Nat):Int)],0,1)):=by
  show (ob (br (decide (IntKind.wrap .i64 ((IntKind.wrap .i64 ((v:Int)-0))-(b:Int))<0)) (some ((1:Int),IntKind.wrap .i64 ((IntKind.wrap .i64 ((IntKind.wrap .i64 ((v:Int)-0))-(b:Int)))+4294967296))) (some (0,IntKind.wrap .i64 ((IntKind.wrap .i64 ((v:Int)-0))-(b:Int))))) fun (v194,v195)=>gd (iB (([]:List Int)++[v195]).length) (some (Sum.inl ((([]:List Int)++[v195]),v194,IntKind.wrap .i64 (0+1)))))=_
  rw [e0,aU (by omega)]; rfl
 have st1:ua (m+20) [(v:Int)] [(b:Int)] ([((v-b:Nat):Int)],0,1)=some (.inr [((v-b:Nat):Int)]):=rfl;unfold xb;rw [aY st0,aZ st1,ah,pE (by omega)]; rfl
theorem BX {n:Nat} (hn:100<n) {a b:Nat} (ha:a<1073741825) (hb:b<1073741825) (hb0:b≠0) :
  ∀ j m q r,j≤32→j<m→r<b→q=a/2 ^ j/b*2 ^ j→r=a/2 ^ j%b →
   bH (gT n 0 [(a:Int)] [(b:Int)] 1) m ([(q:Int)],rl r,(j:Int)-1)=some ([((a/b:Nat):Int)],rl (a%b)):=by
 intro j
 induction j with
 | zero =>
  intro m q r _ hm hr hq hrr;obtain ⟨m,rfl⟩:∃ m',m=m'+1:=⟨m-1,by omega⟩
  have st:gT n 0 [(a:Int)] [(b:Int)] 1 ([(q:Int)],rl r,((0:Nat):Int)-1)=some (.inr ([(q:Int)],rl r)):=by
   unfold gT
   dsimp only
   rw [aU (by decide)]
  rw [aZ st];simp at hq hrr;rw [hq,hrr]
 | succ j ih =>
  intro m q r hj hm hr hq hrr;obtain ⟨m,rfl⟩:∃ m',m=m'+1:=⟨m-1,by omega⟩
  have hr2:2*r+1<4294967296:=by omega
  have hjb:min j (IntKind.bits .i64)=j:=Nat.min_eq_left (show j≤64 by omega)
  have hshr:Int.tmod (B0 .i64 (a:Int) ((j:Nat):Int).toNat) 2=((a/2 ^ j%2:Nat):Int):=by
   unfold B0;rw [Int.toNat_natCast,hjb,Int.fdiv_eq_ediv_of_nonneg _ (by exact Int.natCast_nonneg _)]
   have e1:(a:Int)/((2:Int) ^ j)=((a/2 ^ j:Nat):Int):=by
    rw [Int.natCast_ediv]; simp
   rw [e1,Int.tmod_eq_emod_of_nonneg (Int.natCast_nonneg _)]; rfl
  have hp2:2 ^ j≤2147483648:=by
   have:2 ^ j≤2 ^ 31:=Nat.pow_le_pow_right (by decide) (by omega)
   exact this
  have hshl:Bi .i64 1 ((j:Nat):Int).toNat=((2 ^ j:Nat):Int):=by
   unfold Bi;rw [Int.toNat_natCast,hjb,Int.one_mul];have e1:(2:Int) ^ j=((2 ^ j:Nat):Int):=by simp
   have key:∀ p:Nat,p≤2147483648→IntKind.wrap .i64 (p:Int)=(p:Int):=fun p h=>aK (by omega) (by omega)
   rw [e1,key _ hp2]
  have hA:a/2 ^ j=2*(a/2 ^ (j+1))+a/2 ^ j%2:=by
   have:a/2 ^ (j+1)=a/2 ^ j/2:=by rw [Nat.pow_succ,Nat.div_div_eq_div_mul]
   rw [this]; omega
  have hdm:=Nat.div_add_mod (a/2 ^ (j+1)) b;rw [← hrr] at hdm;have hc:a/2 ^ j%2≤1:=by omega
  have hqa:a/2 ^ j/b*2 ^ j≤a:=Nat.le_trans (Nat.mul_le_mul_right _ (Nat.div_le_self _ _)) (Nat.div_mul_le_self _ _);generalize hB:a/2 ^ j=B at *;generalize hA2:a/2 ^ (j+1)=A at *;generalize hcc:B%2=c at *;generalize hQ:A/b=Q at *;have hB2:B=b*(2*Q)+(2*r+c):=by rw [hA,← hdm,Nat.mul_add,Nat.mul_left_comm]; omega
  obtain ⟨o,o1,o2⟩:=Gi (n:=n) (by omega) (show 2*r+c<4294967296 by omega) (show b<4294967296 by omega) hb0
  have e0:((j+1:Nat):Int)-1=((j:Nat):Int):=by omega
  have hq1:q=2*Q*2 ^ j:=by rw [hq,Nat.pow_succ,Nat.mul_comm (2 ^ j) 2,← Nat.mul_assoc,Nat.mul_comm Q 2]
  by_cases ho:b≤2*r+c
  ·have hBd:B/b=2*Q+1:=by
    rw [hB2,Nat.mul_add_div (by omega)]
    have:(2*r+c)/b=1:=by rw [Nat.div_eq_iff (by omega)]; omega
    rw [this]
   have hBm:B%b=2*r+c-b:=by
    rw [hB2,Nat.mul_add_mod,Nat.mod_eq_sub_mod ho,Nat.mod_eq_of_lt (by omega)]
   have hq':((q+2 ^ j:Nat):Int)=((B/b*2 ^ j:Nat):Int):=by rw [hBd,hq1,Nat.add_mul,Nat.one_mul]
   have st:gT n 0 [(a:Int)] [(b:Int)] 1 ([(q:Int)],rl r,((j:Nat):Int))=some (.inl ([((B/b*2 ^ j:Nat):Int)],rl (2*r+c-b),((j:Nat):Int)-1)):=by
    unfold gT
    dsimp only
    rw [aP (by omega),show bD 0 [(a:Int)].length=true from rfl,aR,show ([(a:Int)]:List Int)[(0:Int).toNat]? = some (a:Int) from rfl,ah,hshr,Ai (by omega) hr2 hc,ah,o1,ah,aP (o2.2 ho),Ga (by omega) (by omega) ho hb0,ah]
    rw [show bD 0 (1:Int).toNat=true from rfl,aR,show ([(q:Int)]:List Int)[(0:Int).toNat]? = some (q:Int) from rfl,ah,aR,ah,hshl]
    dsimp only
    rw [aK (x:=(q:Int)+_) (by omega) (by omega),aK (by omega) (by omega),← hq',Int.natCast_add]; rfl
   rw [e0,aY st];exact ih m _ _ (by omega) (by omega) (by omega) rfl hBm.symm
  ·have hBd:B/b=2*Q:=by
    rw [hB2,Nat.mul_add_div (by omega),Nat.div_eq_of_lt (by omega)]; rfl
   have hBm:B%b=2*r+c:=by
    rw [hB2,Nat.mul_add_mod,Nat.mod_eq_of_lt (by omega)]
   have st:gT n 0 [(a:Int)] [(b:Int)] 1 ([(q:Int)],rl r,((j:Nat):Int))=some (.inl ([(q:Int)],rl (2*r+c),((j:Nat):Int)-1)):=by
    unfold gT
    dsimp only
    rw [aP (by omega),show bD 0 [(a:Int)].length=true from rfl,aR,show ([(a:Int)]:List Int)[(0:Int).toNat]? = some (a:Int) from rfl,ah,hshr,Ai (by omega) hr2 hc,ah,o1,ah,aU (fun e=>ho (o2.1 e)),ah]
    dsimp only
    rw [aK (by omega) (by omega)]
   rw [e0,aY st];exact ih m _ _ (by omega) (by omega) (by omega) (by rw [hBd,hq1]) hBm.symm
end Go.Proofs.YtookeaakpiefjaaGreatDoor
end

section
namespace Go.Proofs.YtookeaakpiefjaaGreatDoor
open Go Go.Ab Go.Ab.W Go.Ab.T30
theorem Ad {n:Nat} (hn:100<n) {a b:Nat} (ha:a<1073741825) (hb:b<1073741825) (hb0:b≠0):EA n (rl a) [(b:Int)]=some (rl (a/b),rl (a%b)):=by
 obtain ⟨m,rfl⟩:∃ m,n=m+101:=⟨n-101,by omega⟩
 by_cases h:a=0
 ·subst h;rw [Nat.zero_div,Nat.zero_mod]; rfl
 ·rw [gj h];have h1:=BX (n:=m+101) (by omega) ha hb hb0 32 (m+101) 0 0 (by omega) (by omega) (by omega) (by rw [Nat.div_eq_of_lt (show a<2 ^ 32 by omega)]; simp) (by rw [Nat.div_eq_of_lt (show a<2 ^ 32 by omega)]; simp)
  have st0:mV (m+101) [(a:Int)] [(b:Int)] 1 ([(0:Int)],[],0)=some (.inl ([((a/b:Nat):Int)],rl (a%b),-1)):=by
   have h2:bH (gT (m+101) 0 [(a:Int)] [(b:Int)] 1) (m+101) ([(0:Int)],[],31)=some ([((a/b:Nat):Int)],rl (a%b)):=h1;unfold mV
   dsimp only
   rw [aP (by decide),h2,ah]; rfl
  have st1:mV (m+101) [(a:Int)] [(b:Int)] 1 ([((a/b:Nat):Int)],rl (a%b),-1)=some (.inr ([((a/b:Nat):Int)],rl (a%b))):=rfl
  show (ob (bH (mV (m+101) [(a:Int)] [(b:Int)] 1) (m+101) ([(0:Int)],[],0)) fun (l420,l421)=>ob (me (m+101) l420) fun l617=>some (l617,l421))=_
  rw [aY st0,aZ st1,ah]
  dsimp only
  rw [pE (by omega),ah]
theorem Hl {n:Nat} (hn:100<n):∀ (b a m:Nat),a<1073741825→b<1073741825→b<m→bH (mT n) m (rl a,rl b)=some (rl (Nat.gcd a b)):=by
 intro b
 induction b using Nat.strongRecOn with
 | _ b ih =>
  intro a m ha hb hm;obtain ⟨m,rfl⟩:∃ m',m=m'+1:=⟨m-1,by omega⟩
  by_cases h:b=0
  ·subst h;rw [Nat.gcd_zero_right];exact aZ (by unfold mT; rfl)
  ·have st:mT n (rl a,rl b)=some (.inl (rl b,rl (a%b))):=by
    rw [gj h];unfold mT
    dsimp only
    rw [aP (show (0:Int)<(([(b:Int)]:List Int).length:Int) by simp),Ad hn ha hb h]; rfl
   have hlt:=Nat.mod_lt a (show 0<b by omega)
   rw [aY st,ih (a%b) hlt b m hb (by omega) (by omega)]
   rw [Nat.gcd_comm a b,Nat.gcd_rec b a,Nat.gcd_comm]
theorem Hh {n:Nat} (hn:20≤n) (v:Nat):me n (rl v)=some (rl v):=by
 by_cases h:v=0
 ·subst h;obtain ⟨m,rfl⟩:∃ m,n=m+20:=⟨n-20,by omega⟩
  rfl
 ·rw [gj h,pE hn,gj h]
theorem zj {n:Nat} (hn:20≤n) (v:Nat):oc n false (rl v)=some (false,rl v):=by
 unfold oc;rw [Hh hn,ah,cF]
theorem Az {n:Nat} (hn:100<n) {a b:Nat} (ha:a<1073741825) (hb:b<1073741825) (hb0:b≠0) (hd:a%b=0):Bj n false (rl a) false (rl b)=some (false,rl (a/b),false,[]):=by
 unfold Bj;rw [gj hb0,Ad hn ha hb hb0,ah]
 dsimp only
 rw [hd,show (!(false == false))=false from rfl,zj (by omega),ah]
 dsimp only
 rw [zj (by omega)]; rfl
theorem Ex {n:Nat} (hn:20≤n) {c:Nat} (hc:c<4294967296):IE n false (rl c)=some (c,0,0,0,0,0,0,0,0):=by
 by_cases h:c=0
 ·subst h;obtain ⟨m,rfl⟩:∃ m,n=m+20:=⟨n-20,by omega⟩
  rfl
 ·rw [gj h,AU hn hc]
theorem KN {n a b:Nat} (hn:1073741825<n) (ha:a<1073741825) (hb:b<1073741825) (hb0:b≠0):Cr n (a:Int) (b:Int)=some (a/Nat.gcd a b,0,0,0,0,0,0,0,b/Nat.gcd a b,0,0,0,0,0,0,0,0):=by
 have hg0:Nat.gcd a b≠0:=fun e=>hb0 (Nat.eq_zero_of_gcd_eq_zero_right e);have hgb:Nat.gcd a b≤b:=Nat.le_of_dvd (by omega) (Nat.gcd_dvd_right a b)
 have hda:=Nat.mod_eq_zero_of_dvd (Nat.gcd_dvd_left a b);have hdb:=Nat.mod_eq_zero_of_dvd (Nat.gcd_dvd_right a b);have hqa:a/Nat.gcd a b≤a:=Nat.div_le_self _ _;have hqb:b/Nat.gcd a b≤b:=Nat.div_le_self _ _;have e72:∀ c:Nat,c<1073741825→FG n (c:Int)=some (false,rl c):=fun c hc=>Ah (by omega) (by omega)
 unfold Cr;rw [aU (by omega)]
 unfold G7;rw [e72 a ha,ah]
 dsimp only
 rw [e72 b hb,ah]
 dsimp only
 unfold G2 G4;rw [Hl (by omega) b a n ha hb (by omega),ah,ah]
 dsimp only
 rw [cF,ah]
 dsimp only
 rw [Az (by omega) ha (by omega) hg0 hda,ah]
 dsimp only
 rw [Az (by omega) hb (by omega) hg0 hdb,ah]
 dsimp only
 rw [ah]
 dsimp only
 unfold F6;rw [ah]
 dsimp only
 rw [Ex (by omega) (by omega),Ex (by omega) (by omega)]
 rfl
def ul (v:Nat):List Nat:=if v=0 then [] else [v]
theorem yJ {v:Nat} (h:v≠0):ul v = [v]:=if_neg h
theorem rJ {v:Nat} (h:v<18446744073709551616):Lg (v:Int) false (ul v):=by
 by_cases h0:v=0
 ·subst h0; exact Lg.zero
 ·rw [yJ h0]; exact Lg.small h0 h false
theorem MC (v:Nat):vl (ul v)=v:=by
 by_cases h0:v=0
 ·subst h0; rfl
 ·rw [yJ h0]; simp [vl]
theorem yT (v:Nat):(ul v).length≤1:=by unfold ul; split <;> simp
theorem H8 {n:Nat} (hn:100<n):∀ (b a m:Nat),a<18446744073709551616→b<18446744073709551616→b<m→bH (nC n) m (ul a,ul b)=some (ul (Nat.gcd a b)):=by
 intro b
 induction b using Nat.strongRecOn with
 | _ b ih =>
  intro a m ha hb hm;obtain ⟨m,rfl⟩:∃ m',m=m'+1:=⟨m-1,by omega⟩
  by_cases h:b=0
  ·subst h;rw [Nat.gcd_zero_right];exact aZ (by unfold nC; rfl)
  ·have hla:=yT a;obtain ⟨q,t,m',q1,q2,q3,q4,q5,q6⟩:=vU (n:=n) (rJ ha).wd hb h (by omega) (by omega) (by omega)
   rw [MC] at q5;have hlt:=Nat.mod_lt a (show 0<b by omega)
   obtain ⟨-,e2⟩:=q5.inj (rJ (show a%b<18446744073709551616 by omega))
   have st:nC n (ul a,ul b)=some (.inl (ul b,ul (a%b))):=by
    rw [yJ h];unfold nC
    dsimp only
    rw [aP (show (0:Int)<(([b]:List Nat).length:Int) by simp),q1,e2]; rfl
   rw [aY st,ih (a%b) hlt b m hb (by omega) (by omega)]
   rw [Nat.gcd_comm a b,Nat.gcd_rec b a,Nat.gcd_comm]
theorem Jm {n a b:Nat} (hn:1073741825<n) (ha:a<1073741825) (hb:b<1073741825) (hb0:b≠0) {s t:Bool} {l k:List Nat} (h:Lg (a:Int) s l) (h':Lg (b:Int) t k) :
  ∃ s' l' t' k',My n s l t k=some (s',l',t',k')∧Lg ((a/Nat.gcd a b:Nat):Int) s' l'∧Lg ((b/Nat.gcd a b:Nat):Int) t' k':=by
 have hg0:Nat.gcd a b≠0:=fun e=>hb0 (Nat.eq_zero_of_gcd_eq_zero_right e);have hgb:Nat.gcd a b≤b:=Nat.le_of_dvd (by omega) (Nat.gcd_dvd_right a b)
 obtain ⟨rfl,rfl⟩:=h.inj (rJ (by omega))
 obtain ⟨rfl,rfl⟩:=h'.inj (rJ (by omega))
 have ea:((a/Nat.gcd a b:Nat):Int)*((Nat.gcd a b:Nat):Int)=(a:Int):=by rw [← Int.natCast_mul,Nat.div_mul_cancel (Nat.gcd_dvd_left a b)]
 have eb:((b/Nat.gcd a b:Nat):Int)*((Nat.gcd a b:Nat):Int)=(b:Int):=by rw [← Int.natCast_mul,Nat.div_mul_cancel (Nat.gcd_dvd_right a b)]
 have hla:=yT a;have hlb:=yT b;rw [← ea] at h;rw [← eb] at h';obtain ⟨u1,m1,v1,o1,f1,f2⟩:=tt (n:=n) h (rJ (v:=Nat.gcd a b) (by omega)) (by omega) (by omega) (by omega) (by omega) (by omega)
 obtain ⟨u2,m2,v2,o2,f3,f4⟩:=tt (n:=n) h' (rJ (v:=Nat.gcd a b) (by omega)) (by omega) (by omega) (by omega) (by omega) (by omega)
 have hu2:=f4.BY;rw [decide_eq_false (Int.not_lt.2 (Int.natCast_nonneg _))] at hu2;subst hu2;refine ⟨u1,m1,false,m2,?_,f2,f4⟩;unfold My Gm;rw [H8 (by omega) b a n (by omega) (by omega) (by omega),ah,ah]
 dsimp only
 rw [f1,ah]
 dsimp only
 rw [f3,ah]
 rfl
end Go.Proofs.YtookeaakpiefjaaGreatDoor
end

section
namespace Go.Proofs.YtookeaakpiefjaaGreatDoor
open Go Go.Ab Go.Ab.W Go.Ab.T30
def Kr (r r':Nat→Nat):Prop:=∀ v w,r v=r w↔r' v=r' w
theorem Kr.join {r r':Nat→Nat} (h:Kr r r') (e:Nat × Nat):Kr (bg r e) (bg r' e):=by
 intro v w
 by_cases h1:r e.1=r e.2
 ·rw [eQ h1,eQ ((h _ _).1 h1)]; exact h v w
 ·rw [bK h1,bK (fun g=>h1 ((h _ _).2 g)),h v w,h v e.1,h v e.2,h w e.1,h w e.2]
theorem E3 (es:List (Int × Int)):∀ (L:List Int) (d:Nat) {r r':Nat→Nat},Kr r r'→gw es L d r=gw es L d r'
 | L,0,_,_,_=>by cases L <;> rfl
 | [],d+1,_,_,_=>rfl
 | k::L,d+1,r,r',h=>by
  simp only [gw];rw [E3 es L (d+1) h,E3 es L d (h.join (eg es k))]
  by_cases h1:r (eg es k).1=r (eg es k).2
  ·rw [if_pos h1,if_pos ((h _ _).1 h1)]
  ·rw [if_neg h1,if_neg (fun g=>h1 ((h _ _).2 g))]
theorem xP (es:List (Int × Int)):∀ (L:List Int) (d:Nat) (r:Nat→Nat),∀ t ∈ gw es L d r,∀ k ∈ t,k ∈ L
 | L,0,r,t,ht,k,hk=>by
  have:gw es L 0 r = [[]]:=by cases L <;> rfl
  rw [this,List.mem_singleton] at ht;rw [ht] at hk; cases hk
 | [],d+1,_,t,ht,_,_=>by cases ht
 | m::L,d+1,r,t,ht,k,hk=>by
  simp only [gw] at ht;rcases List.mem_append.1 ht with ht | ht
  ·split at ht
   ·cases ht
   ·obtain ⟨t',h1,rfl⟩:=List.mem_map.1 ht;rcases List.mem_cons.1 hk with rfl | hk
    ·exact List.mem_cons_self
    ·exact List.mem_cons_of_mem _ (xP es L d _ t' h1 k hk)
  ·exact List.mem_cons_of_mem _ (xP es L (d+1) _ t ht k hk)
def hv (k:Int) (T:List (List Int)):Nat:=(T.filter fun t=>t.contains k).length
theorem zb (k:Int) (S T:List (List Int)):hv k (S++T)=hv k S+hv k T:=by unfold hv; rw [List.filter_append,List.length_append]
theorem Gh {k:Int} {T:List (List Int)} (h:∀ t ∈ T,k ∉ t):hv k T=0:=by
 unfold hv;rw [List.filter_eq_nil_iff.2 fun t ht=>by simpa using h t ht]; rfl
theorem xd (k:Int) (T:List (List Int)):hv k (T.map (k::·))=T.length:=by
 unfold hv;rw [List.filter_eq_self.2 fun t ht=>by
  obtain ⟨t',_,rfl⟩:=List.mem_map.1 ht;simp,List.length_map]
theorem sd {k m:Int} (hne:k≠m) (T:List (List Int)):hv k (T.map (m::·))=hv k T:=by
 unfold hv;rw [List.filter_map,List.length_map]
 congr 2
 funext t
 simp [hne]
theorem oM (es:List (Int × Int)) (k:Int) (L:List Int) (d:Nat) {r:Nat→Nat} (h:r (eg es k).1=r (eg es k).2):gw es (k::L) d r=gw es L d r:=by
 cases d with
 | zero=>cases L <;> rfl
 | succ d=>simp only [gw]; rw [if_pos h,List.nil_append]
theorem join_self {r:Nat→Nat} (e:Nat × Nat):bg r e e.1=bg r e e.2:=by
 by_cases h:r e.1=r e.2
 ·rw [eQ h]; exact h
 ·rw [bK h]; exact .inr ⟨.inl rfl,.inr rfl⟩
theorem join_comm {r:Nat→Nat} {e f:Nat × Nat} (he:r e.1≠r e.2) (hf:r f.1≠r f.2):(bg r e f.1=bg r e f.2↔bg r f e.1=bg r f e.2)∧Kr (bg (bg r e) f) (bg (bg r f) e):=by
 have h1:bg r e f.1=bg r e f.2↔bg r f e.1=bg r f e.2:=by
  rw [bK he,bK hf]; omega
 refine ⟨h1,fun v w=>?_⟩
 by_cases h2:bg r e f.1=bg r e f.2
 ·rw [eQ h2,eQ (h1.1 h2),bK he,bK hf];rw [bK he] at h2;omega
 ·have h3:¬ bg r f e.1=bg r f e.2:=fun g=>h2 (h1.2 g);rw [bK h2,bK h3];rw [bK he] at h2;rw [bK hf] at h3;simp only [bK he,bK hf];clear h1;generalize r v=a;generalize r w=b;generalize r e.1=p at *;generalize r e.2=q at *;generalize r f.1=u at *;generalize r f.2=z at *
  grind
theorem CL (es:List (Int × Int)) (k:Int):∀ (L:List Int) (d:Nat) (r:Nat→Nat),L.Nodup→k ∈ L→r (eg es k).1≠r (eg es k).2→hv k (gw es L (d+1) r)=(gw es L d (bg r (eg es k))).length
 | m::L,d,r,hn,hk,hr=>by
  obtain ⟨n1,n2⟩:=List.nodup_cons.1 hn
  by_cases hkm:k=m
  ·subst hkm;simp only [gw];rw [if_neg hr,zb,xd,Gh fun t ht hkt=>n1 (xP es L (d+1) r t ht k hkt),oM es k L d (join_self _)]
   rfl
  ·have hk':k ∈ L:=(List.mem_cons.1 hk).resolve_left hkm;simp only [gw];rw [zb,CL es k L d r n2 hk' hr]
   by_cases hm:r (eg es m).1=r (eg es m).2
   ·rw [if_pos hm];have:bg r (eg es k) (eg es m).1=bg r (eg es k) (eg es m).2:=by rw [bK hr]; exact .inl hm
    rw [oM es m L d this]
    show 0+_=_
    omega
   ·rw [if_neg hm,sd hkm];obtain ⟨c1,c2⟩:=join_comm hm hr;cases d with
    | zero =>
     have e0:∀ (L:List Int) (r:Nat→Nat),gw es L 0 r = [[]]:=fun L r=>by cases L <;> rfl
     rw [e0,e0,e0]; rfl
    | succ d =>
     by_cases h2:bg r (eg es m) (eg es k).1=bg r (eg es m) (eg es k).2
     ·have h3:=c1.1 h2;rw [oM es m L (d+1) h3];have:hv k (gw es L (d+1) (bg r (eg es m)))=0:=hv_none_loop es k L (d+1) _ h2;rw [this]; omega
     ·have h3:¬ bg r (eg es k) (eg es m).1=bg r (eg es k) (eg es m).2:=fun g=>h2 (c1.2 g);rw [CL es k L d _ n2 hk' h2];simp only [gw];rw [if_neg h3,List.length_append,List.length_map,E3 es L d c2]
where
 hv_none_loop (es:List (Int × Int)) (k:Int):∀ (L:List Int) (d:Nat) (r:Nat→Nat),r (eg es k).1=r (eg es k).2→hv k (gw es L d r)=0
 | L,0,r,_=>by
  have:gw es L 0 r = [[]]:=by cases L <;> rfl
  rw [this]; rfl
 | [],d+1,r,_=>rfl
 | m::L,d+1,r,h=>by
  simp only [gw];rw [zb,hv_none_loop es k L (d+1) r h]
  by_cases hm:r (eg es m).1=r (eg es m).2
  ·rw [if_pos hm]; rfl
  ·rw [if_neg hm]
   by_cases hkm:k=m
   ·rw [hkm] at h; exact absurd h hm
   ·rw [sd hkm,hv_none_loop es k L d _ (by rw [bK hm]; exact .inl h)]
end Go.Proofs.YtookeaakpiefjaaGreatDoor
end

section
namespace Go.Proofs.YtookeaakpiefjaaGreatDoor
open Go Go.Ab Go.Ab.W Go.Ab.T30
def gt (W:List (Int × Bool)) (k:Nat):Bool:=(bR W (k:Int)).getD false
structure Dcd (es:List (Int × Int)) (x:Nat) (W O:List (Int × Bool)) (i:Nat):Prop where
 lt:∀ k,k<i→hZ es x (k:Int)=true→gt W k = !gt O k
 ge:∀ k,i≤k→gt W k=false∧gt O k=false
def hd (es:List (Int × Int)) (x:Nat) (W:List (Int × Bool)) (i:Nat):List Int:=((List.range i).filter (wi es x W)).map fun (k:Nat)=>(k:Int)
section
variable {N : Nat} {es : List (Int × Int)} {x i : Nat} {W O : List (Int × Bool)}
theorem nK (hi:i≤es.length):List.range es.length=List.range i++List.range' i (es.length-i):=by
 rw [List.range_eq_range',List.range_eq_range'];have:=List.range'_append_1 (s:=0) (m:=i) (n:=es.length-i);rw [Nat.zero_add,show i+(es.length-i)=es.length by omega] at this
 exact this.symm
theorem Dcd.OF (h:Dcd es x W O i) (hi:i≤es.length):wl es x W 0 es.length=(hd es x W i).map (eg es):=by
 unfold wl hd;rw [← List.range_eq_range',nK hi,List.filter_append,List.map_map,List.map_append];have:(List.range' i (es.length-i)).filter (wi es x W) = []:=List.filter_eq_nil_iff.2 fun k hk=>by
  have h1:=(List.mem_range'_1.1 hk).1;have:=(h.ge k h1).1;unfold gt at this;unfold wi;rw [this,Bool.and_false]; simp
 rw [this,List.map_nil,List.append_nil]; rfl
theorem Dcd.OZ (h:Dcd es x W O i) (hi:i≤es.length):kx es x O=hd es x W i++il es x i (es.length-i):=by
 unfold kx hd il;rw [nK hi,List.filter_append,List.map_append]
 congr 2
 ·refine List.filter_congr fun k hk=>?_;unfold ki wi;cases hin:hZ es x (k:Int) with
  | false=>rfl
  | true =>
   have:=h.lt k (List.mem_range.1 hk) hin;unfold gt at this;rw [this]
 ·refine List.filter_congr fun k hk=>?_;have h1:=(List.mem_range'_1.1 hk).1;have:=(h.ge k h1).2;unfold gt at this;unfold ki;rw [this]; simp
theorem vw (es:List (Int × Int)) (L:List Int) (d:Nat) {r:Nat→Nat}:∀ T:List Int,(∀ k ∈ T,r (eg es k).1=r (eg es k).2)→gw es (T++L) d r=gw es L d r
 | [],_=>rfl
 | k::T,h=>by rw [List.cons_append,oM es k _ d (h k List.mem_cons_self),vw es L d T fun k hk=>h k (List.mem_cons_of_mem _ hk)]
def rh (es:List (Int × Int)) (x:Nat) (W:List (Int × Bool)) (i:Nat):Nat→Nat:=rep ((hd es x W i).map (eg es))
theorem HW {k:Int} (hk:k ∈ hd es x W i):rh es x W i (eg es k).1=rh es x W i (eg es k).2:=by
 unfold rh;rw [sH];exact Cn.one (.inl (List.mem_map.2 ⟨k,hk,rfl⟩))
theorem EV (es:List (Int × Int)) (x:Nat) (O:List (Int × Bool)):(kx es x O).length≤inc es x 0:=by
 have h1:=pw es x es.length 0 (by omega)
 rw [← h1];unfold kx il;rw [List.length_map,List.length_map,← List.range_eq_range',← List.countP_eq_length_filter,← List.countP_eq_length_filter];refine List.countP_mono_left fun k _ hk=>?_;unfold ki at hk;rw [Bool.and_eq_true] at hk;exact hk.1
theorem FV (h:Okay N es) {n:Nat} (hx:x<2 ^ 64) (h0:0<x) (hn:300<n) (x1:Int) (hinc:inc es x 0≤36) (hd':Dcd es x W O i) (hi:i≤es.length) :
  (bZ (fun x=>x) ((hd es x W i).map (eg es))=false→Ax n x1 es x W O=some (false,[])) ∧
  (bZ (fun x=>x) ((hd es x W i).map (eg es))=true→∃ t q,Ax n x1 es x W O=some (t,q)∧Lg ((gw es (il es x i (es.length-i)) (rk x 64-1-(hd es x W i).length) (rh es x W i)).length:Int) t q∧(hd es x W i).length+1≤rk x 64):=by
 have hc:=yb (W:=W) (O:=O) h hx h0 hn x1 (by have:=EV es x O; omega)
 have hw:=hd'.OF hi;rw [hw] at hc;refine ⟨hc.1,fun ha=>?_⟩;obtain ⟨t,q,h1,h2⟩:=hc.2 ha;have hp:=yc (W:=W) h hx h0 (by rw [hw]; exact ha)
 rw [hw,List.length_map] at hp;have hr:rW es x W=rh es x W i:=by unfold rW rh; rw [hw]; rfl
 rw [hd'.OZ hi,hr,vw es _ _ _ fun k hk=>HW hk,show (pW es x W).length=rk x 64-1-(hd es x W i).length by omega] at h2
 exact ⟨t,q,h1,h2,by omega⟩
theorem Ji (W:List (Int × Bool)) (i k:Nat) (b:Bool):gt (fk W (i:Int) b) k=if k=i then b else gt W k:=by
 unfold gt;rw [Fv]
 by_cases h:k=i
 ·rw [if_pos h,if_pos (by omega)]
 ·rw [if_neg h,if_neg (by omega)]
theorem Dcd.skip (h:Dcd es x W O i) (hin:hZ es x (i:Int)=false):Dcd es x W O (i+1):=by
 refine ⟨fun k hk hk2=>?_,fun k hk=>h.ge k (by omega)⟩
 by_cases hki:k=i
 ·subst hki; rw [hin] at hk2; cases hk2
 ·exact h.lt k (by omega) hk2
end
end Go.Proofs.YtookeaakpiefjaaGreatDoor
end

section
namespace Go.Proofs.YtookeaakpiefjaaGreatDoor
open Go Go.Ab Go.Ab.W Go.Ab.T30
section
variable {N : Nat} {es : List (Int × Int)} {x : Nat}
def G (es:List (Int × Int)) (x:Nat) (W:List (Int × Bool)) (i:Nat):List (List Int):=gw es (il es x i (es.length-i)) (rk x 64-1-(hd es x W i).length) (rh es x W i)
structure Uv (es:List (Int × Int)) (x:Nat) (z:Int) (tgt:List Int) (i:Nat) (s:Bool) (l:List Nat) (W O:List (Int × Bool)) (tr:List Int) (zi:Int):Prop where
 dcd:Dcd es x W O i
 fresh:∀ k:Nat,i≤k→bR W (k:Int)=none
 join:bZ (fun x=>x) ((hd es x W i).map (eg es))=true
 tr:tr=hd es x W i
 lg:Lg zi s l
 lo:0≤zi
 hi:zi≤z
 len:(hd es x W i).length+1≤rk x 64
 at_:∃ t,(G es x W i)[zi.toNat]? = some t∧hd es x W i++t=tgt
end
end Go.Proofs.YtookeaakpiefjaaGreatDoor
end

section
namespace Go.Proofs.YtookeaakpiefjaaGreatDoor
open Go Go.Ab Go.Ab.W Go.Ab.T30
theorem Ic {N:Int} {es:List (Int × Int)} {x:Nat} (hc:FJ N es x=0):m9 N es=true∧x≠0:=by
 unfold FJ at hc
 by_cases h:m9 N es=true
 ·refine ⟨h,fun e=>?_⟩;rw [if_pos h,if_pos (.inl e)] at hc;cases hc
 ·rw [if_neg h] at hc; cases hc
theorem Gr {M:Nat} {es:List (Int × Int)} {x n:Nat} (hok:m9 (M:Int) es=true) (hO:Okay M es) (hx:x<2 ^ 64) (h0:x≠0) (hn:300<n) (hr:rk x 64≤9) (x1:Int) :
  ∃ t q,Ax n x1 es x [] []=some (t,q)∧Lg ((er es x).length:Int) t q:=by
 have hinc:=j7 hok hO hr 0;have hD:Dcd es x ([]:List (Int × Bool)) [] 0:=⟨fun k hk=>absurd hk (Nat.not_lt_zero _),fun k _=>⟨rfl,rfl⟩⟩;obtain ⟨t,q,h1,h2,h3⟩:=(FV hO hx (show 0<x by omega) hn x1 hinc hD (Nat.zero_le _)).2 rfl
 exact ⟨t,q,h1,h2⟩
end Go.Proofs.YtookeaakpiefjaaGreatDoor
end

section
namespace Go.Proofs.YtookeaakpiefjaaGreatDoor
open Go Go.Ab Go.Ab.W Go.Ab.T30
theorem oN (es:List (Int × Int)):∀ (L:List Int) (d:Nat) (r:Nat→Nat),∀ t ∈ gw es L d r,t.Sublist L
 | L,0,r,t,ht=>by
  have:gw es L 0 r = [[]]:=by cases L <;> rfl
  rw [this,List.mem_singleton] at ht;rw [ht]; exact List.nil_sublist _
 | [],d+1,_,t,ht=>by cases ht
 | m::L,d+1,r,t,ht=>by
  simp only [gw] at ht;rcases List.mem_append.1 ht with ht | ht
  ·split at ht
   ·cases ht
   ·obtain ⟨t',h1,rfl⟩:=List.mem_map.1 ht;exact (oN es L d _ t' h1).cons_cons m
  ·exact (oN es L (d+1) _ t ht).cons m
theorem uT (es:List (Int × Int)) (x i j:Nat):(il es x i j).Nodup:=by
 unfold il;refine List.Pairwise.map _ (fun a b h=>?_) (List.Pairwise.filter _ List.nodup_range');intro e;exact h (by omega)
theorem pf {es:List (Int × Int)} {x:Nat} {t:List Int} (h:t ∈ er es x):t.Nodup:=(oN _ _ _ _ t h).nodup (uT _ _ _ _)
theorem Du {es:List (Int × Int)} {x:Nat} {t:List Int} (h:t ∈ er es x):t.length≤es.length:=by
 have:=(oN _ _ _ _ t h).length_le;unfold il at this;rw [List.length_map] at this;have h2:=List.length_filter_le (fun (k:Nat)=>hZ es x (k:Int)) (List.range' 0 es.length);rw [List.length_range'] at h2;omega
theorem Em (n:Nat) (T:List (List Int)) (k:Int) {v:Nat} {t:List Int} (hv:T[v]? = some t) (ht:t.length≤1000) :
  ∀ j i m (c:Nat),i+j=t.length→j<m→c+j<2000000000→bH (rV n (v:Int) T k) m ((c:Int),(i:Int))=some (((c+(t.drop i).count k:Nat):Nat):Int):=by
 have hvl:v<T.length:=(List.getElem?_eq_some_iff.1 hv).1;intro j
 induction j with
 | zero =>
  intro i m c hij hm hc;obtain ⟨m,rfl⟩:∃ m',m=m'+1:=⟨m-1,by omega⟩
  rw [List.drop_eq_nil_of_le (by omega)]
  refine aZ ?_;unfold rV
  dsimp only
  rw [aF hvl,aR,Int.toNat_natCast,hv,ah,aU (by omega)]; rfl
 | succ j ih =>
  intro i m c hij hm hc;obtain ⟨m,rfl⟩:∃ m',m=m'+1:=⟨m-1,by omega⟩
  have hi:i<t.length:=by omega
  obtain ⟨y,hy⟩:∃ y,t[i]? = some y:=⟨t[i],by simp⟩
  have hdr:t.drop i=y::t.drop (i+1):=by
   obtain ⟨h1,h2⟩:=List.getElem?_eq_some_iff.1 hy;rw [List.drop_eq_getElem_cons h1,h2]
  have st:rV n (v:Int) T k ((c:Int),(i:Int))=some (.inl (((c+(if y=k then 1 else 0):Nat):Int),((i+1:Nat):Int))):=by
   unfold rV
   dsimp only
   rw [aF hvl,aR,Int.toNat_natCast,hv,ah,aP (by omega),aR,ah,aF hi,aR,Int.toNat_natCast,hy,ah,bf (i:=i) (by omega)]
   by_cases hk:y=k
   ·rw [aP hk,ah,if_pos hk,bf (i:=c) (by omega)]
   ·rw [aU hk,ah,if_neg hk]; rfl
  rw [aY st,ih (i+1) m _ (by omega) (by omega) (by split <;> omega),hdr,List.count_cons]
  by_cases hk:y=k
  ·subst hk; simp; omega
  ·simp [hk]
def GY (k:Int) (T:List (List Int)):Nat:=(T.map (·.count k)).sum
theorem zU (k:Int):∀ T:List (List Int),(∀ t ∈ T,t.Nodup)→GY k T=hv k T
 | [],_=>rfl
 | t::T,h=>by
  have ih:=zU k T fun t ht=>h t (List.mem_cons_of_mem _ ht);have hc:t.count k=if t.contains k then 1 else 0:=by
   rw [(h t List.mem_cons_self).count];simp
  unfold GY hv at *;rw [List.map_cons,List.sum_cons,List.filter_cons,ih,hc]
  split
  ·rw [List.length_cons]; omega
  ·omega
theorem Dr {n:Nat} (hn:1073741825<n) (T:List (List Int)) (k:Int) (hT:T.length≤1073741824) (ht:∀ t ∈ T,t.Nodup∧t.length≤1000) :
  ∀ j i m (c:Nat),i+j=T.length→j<m→c+j<1100000000→bH (qM n T k) m ((c:Int),(i:Int))=some (((c+GY k (T.drop i):Nat):Nat):Int):=by
 intro j
 induction j with
 | zero =>
  intro i m c hij hm hc;obtain ⟨m,rfl⟩:∃ m',m=m'+1:=⟨m-1,by omega⟩
  rw [List.drop_eq_nil_of_le (by omega)]
  refine aZ ?_;unfold qM
  dsimp only
  rw [aU (by omega)]; rfl
 | succ j ih =>
  intro i m c hij hm hc;obtain ⟨m,rfl⟩:∃ m',m=m'+1:=⟨m-1,by omega⟩
  have hi:i<T.length:=by omega
  obtain ⟨t,hy⟩:∃ y,T[i]? = some y:=⟨T[i],by simp⟩
  obtain ⟨hnd,hlen⟩:=ht t (List.mem_of_getElem? hy);have hdr:T.drop i=t::T.drop (i+1):=by
   obtain ⟨h1,h2⟩:=List.getElem?_eq_some_iff.1 hy;rw [List.drop_eq_getElem_cons h1,h2]
  have h1:=Em n T k hy hlen t.length 0 n c (by omega) (by omega) (by omega)
  rw [List.drop_zero] at h1;have hc1:t.count k≤1:=by rw [hnd.count]; split <;> omega
  have st:qM n T k ((c:Int),(i:Int))=some (.inl (((c+t.count k:Nat):Int),((i+1:Nat):Int))):=by
   unfold qM
   dsimp only
   rw [aP (by omega),show (0:Int)=((0:Nat):Int) from rfl,h1,ah,bf (by omega)]
  rw [aY st,ih (i+1) m _ (by omega) (by omega) (by omega),hdr]
  unfold GY;rw [List.map_cons,List.sum_cons,Nat.add_assoc]
theorem Jv {es:List (Int × Int)} {x k:Nat} (hin:hZ es x (k:Int)=true) (hk:k<es.length):wl es x (fk ([]:List (Int × Bool)) (k:Int) true) 0 es.length = [eg es (k:Int)]:=by
 have h1:∀ i,wi es x (fk ([]:List (Int × Bool)) (k:Int) true) i=(i == k):=fun i=>by
  have h2:=Ji [] k i true;unfold gt at h2;unfold wi;rw [h2]
  by_cases h:i=k
  ·subst h; rw [hin]; simp
  ·rw [if_neg h]; simp [h,bR,cq]
 unfold wl;have h3:(List.range' 0 es.length).filter (wi es x (fk ([]:List (Int × Bool)) (k:Int) true))=(List.range' 0 es.length).filter (· == k):=List.filter_congr fun i _=>h1 i;have hnd:(List.range' 0 es.length).Nodup:=List.nodup_range';rw [h3,List.filter_beq,hnd.count,if_pos (by rw [List.mem_range'_1]; omega)]
 rfl
theorem DV {N:Int} {es:List (Int × Int)} {x n:Nat} (k:Int) (hx:x<2 ^ 64) (hl:es.length≤200) (hn:1073741825<n) (hr:m9 N es=true→rk x 64≤9):∃ r,MA n N es x k=some r∧Lu n N es x k=some r:=by
 unfold MA Lu;rw [DG n N es x hx (by omega) (by omega) (by omega),Fj n N es x hx (by omega) (by omega),ah,ah]
 by_cases hc:FJ N es x=0
 ·rw [decide_eq_true hc,Bool.not_true,cF,cF];obtain ⟨hok,h0⟩:=Ic hc;obtain ⟨M,rfl,hO⟩:=kh hok;have hr:=hr hok;have hinc:=j7 hok hO hr 0;obtain ⟨g1,g2⟩:=E7 hok hO hx h0 (show 300<n by omega) hr
  obtain ⟨t,q,q1,q2⟩:=Gr hok hO hx h0 (show 300<n by omega) hr (M:Int)
  have htest:(br (decide (k<0)) (some true) (br (decide ((es.length:Int)≤k)) (some true) (gd (bD k es.length) (ob (es[k.toNat]?) fun (x53,x54)=>ob (Hk n x x53 x54) fun r57=>some (!r57)))))=some (!hZ es x k):=by
   by_cases h1:k<0
   ·rw [aP h1]; unfold hZ; rw [decide_eq_false (by omega)]; rfl
   ·by_cases h2:(es.length:Int)≤k
    ·rw [aU h1,aP h2]; unfold hZ; rw [decide_eq_false (by omega)]; rfl
    ·obtain ⟨a,b,c1,c2,c3,c4,_,c5⟩:=gV hO (k:=k) ⟨by omega,by omega⟩
     rw [aU h1,aU h2,c5,aR,c1,ah]
     dsimp only
     rw [qv n x a b hx (by omega) c4,ah]
     unfold hZ;rw [decide_eq_true ⟨by omega,by omega⟩,c2,Bool.true_and]
  rw [htest,ah,Ey hO n (M:Int) k x hx,ah];cases hin:hZ es x k with
  | false=>exact ⟨_,rfl,rfl⟩
  | true =>
   rw [Bool.not_true,cF,cF,q1,g1,ah,ah]
   dsimp only
   obtain ⟨sg,s1,s2,s3⟩:=Dc (n:=n) q2;rw [s1,ah]
   by_cases hz:(er es x).length=0
   ·rw [aP (s3.2 (by omega)),aP (by omega)]
    exact ⟨_,rfl,rfl⟩
   ·rw [aU (fun e=>hz (by have:=s3.1 e; omega)),aU (by omega)]
    obtain ⟨hv1,_,_⟩:=tY hin;obtain ⟨kn,rfl⟩:=Int.eq_ofNat_of_zero_le hv1.1;have hkn:kn<es.length:=by have:=hv1.2; omega
    obtain ⟨a,b,c1,c2,c3,c4,_,c5⟩:=gV hO hv1;have hw1:=Jv hin hkn;have haj:bZ (fun x=>x) (wl es x (fk ([]:List (Int × Bool)) (kn:Int) true) 0 es.length)=true:=by
     rw [hw1,c2];have:(a == b)=false:=by simp; omega
     simp [bZ]; omega
    obtain ⟨t2,p2,e1,e2⟩:=(yb (W:=fk ([]:List (Int × Bool)) (kn:Int) true) (O:=[]) hO hx (show 0<x by omega) (show 300<n by omega) (M:Int) (by have:=EV es x []; omega)).2 haj
    have hp:=yc (W:=fk ([]:List (Int × Bool)) (kn:Int) true) hO hx (show 0<x by omega) haj
    rw [hw1,List.length_singleton] at hp;have hrW:rW es x (fk ([]:List (Int × Bool)) (kn:Int) true)=bg (fun x=>x) (eg es (kn:Int)):=by unfold rW; rw [hw1]; rfl
    have hmem:(kn:Int) ∈ il es x 0 es.length:=by
     unfold il;refine List.mem_map.2 ⟨kn,List.mem_filter.2 ⟨by rw [List.mem_range'_1]; omega,hin⟩,rfl⟩
    have hne:(fun x:Nat=>x) (eg es (kn:Int)).1≠(fun x:Nat=>x) (eg es (kn:Int)).2:=by rw [c2]; show a≠b; omega
    have hh:=CL es (kn:Int) (il es x 0 es.length) (rk x 64-2) (fun x=>x) (uT _ _ _ _) hmem hne;rw [hrW,xO,show (pW es x (fk ([]:List (Int × Bool)) (kn:Int) true)).length=rk x 64-2 by omega,← hh,show rk x 64-2+1=rk x 64-1 by omega] at e2
    have e2':Lg ((hv (kn:Int) (er es x):Nat):Int) t2 p2:=e2;have hvle:hv (kn:Int) (er es x)≤(er es x).length:=List.length_filter_le _ _;obtain ⟨s',l',t',k',f1,f2,f3⟩:=Jm (n:=n) hn (show hv (kn:Int) (er es x)<1073741825 by omega) (show (er es x).length<1073741825 by omega) hz e2' q2
    have d1:=Nat.div_le_self (hv (kn:Int) (er es x)) (Nat.gcd (hv (kn:Int) (er es x)) (er es x).length);have d2:=Nat.div_le_self (er es x).length (Nat.gcd (hv (kn:Int) (er es x)) (er es x).length);have hL:=Dr hn (er es x) (kn:Int) g2 (fun t ht=>⟨pf ht,by have:=Du ht; omega⟩) (er es x).length 0 n 0 (by omega) (by omega) (by omega)
    rw [List.drop_zero,zU _ _ fun t ht=>pf ht,Nat.zero_add] at hL;have hL':bH (qM n (er es x) (kn:Int)) n (0,0)=some ((hv (kn:Int) (er es x):Nat):Int):=hL;refine ⟨(hv (kn:Int) (er es x)/Nat.gcd (hv (kn:Int) (er es x)) (er es x).length,0,0,0,0,0,0,0,(er es x).length/Nat.gcd (hv (kn:Int) (er es x)) (er es x).length,0,0,0,0,0,0,0,0),?_,?_⟩
    rotate_left
    ·rw [hL',ah,KN hn (by omega) (by omega) hz]; rfl
    ·rw [e1,ah]
     dsimp only
     rw [f1,ah]
     dsimp only
     unfold Na;rw [xU (by omega) (by omega) f2,ah]
     dsimp only
     rw [xU (by omega) (by omega) f3]; rfl
 ·rw [decide_eq_false hc];exact ⟨_,rfl,rfl⟩
end Go.Proofs.YtookeaakpiefjaaGreatDoor
end

section
namespace Go.Proofs.YtookeaakpiefjaaGreatDoor
open Go Go.Ab Go.Ab.W Go.Ab.T30
theorem FM (n:Nat) (e:Int) (y:Nat) (N:Int) (es:List (Int × Int)) (x:Nat) (hx:x<2 ^ 64) (hl:es.length≤200) (hn:1073741825<n) (hr:m9 N es=true→rk x 64≤9):bH (xC n e y N es x) n 0=some (.inr ()):=by
 have st:∀ i:Nat,i<2→xC n e y N es x ((i:Nat):Int)=some (.inl ((i+1:Nat):Int)):=fun i hi=>by
  obtain ⟨k,hk⟩:∃ k,([e,IntKind.wrap .i64 ((y:Nat):Int)]:List Int)[i]? = some k:=by
   have:i=0∨i=1:=by omega
   rcases this with rfl | rfl
   ·exact ⟨_,rfl⟩
   ·exact ⟨_,rfl⟩
  obtain ⟨⟨a1,a2,a3,a4,a5,a6,a7,a8,a9,a10,a11,a12,a13,a14,a15,a16,a17⟩,h1,h2⟩:=DV k hx hl hn hr;unfold xC;rw [aP (by omega),aF hi,aR,Int.toNat_natCast,hk,ah,h1,ah]
  dsimp only
  rw [h2,ah];simp only [decide_true,Bool.and_true,Bool.not_true,cF,ah];rw [bf (by omega)]
 have s0:=st 0 (by omega)
 have s1:=st 1 (by omega)
 have s2:xC n e y N es x ((2:Nat):Int)=some (.inr (.inr ())):=rfl;obtain ⟨k,hk⟩:∃ k,n=k+3:=⟨n-3,by omega⟩
 generalize xC n e y N es x=B at *;subst hk;rw [show (0:Int)=((0:Nat):Int) from rfl,aY s0,aY s1,aZ s2]
theorem FZ (n:Nat) (N1:Int) (e1:List (Int × Int)) (s1:Nat) (N2:Int) (s2:Nat) (N3:Int) (e3:List (Int × Int)) (s3:Nat) (e:Int)
  (hall:∀ N es s,(N,es,s) ∈ ([(N1,e1,s1),(N2,e1,s2),(N3,e3,s3)]:List (Int × List (Int × Int) × Nat))→es.length≤200∧s<2 ^ 64∧(m9 N es=true→rk s 64≤9)) (hn:1073741825<n):bH (yV n N1 e1 s1 N2 s2 N3 e3 s3 e) n 0=some (.inr ()):=by
 have st:∀ i:Nat,i<3→yV n N1 e1 s1 N2 s2 N3 e3 s3 e ((i:Nat):Int)=some (.inl ((i+1:Nat):Int)):=fun i hi=>by
  have key:∃ N es s,(([(N1,e1,s1),(N2,e1,s2),(N3,e3,s3)]:List (Int × List (Int × Int) × Nat))[i]? = some (N,es,s)):=by
   have:i=0∨i=1∨i=2:=by omega
   rcases this with rfl | rfl | rfl
   ·exact ⟨_,_,_,rfl⟩
   ·exact ⟨_,_,_,rfl⟩
   ·exact ⟨_,_,_,rfl⟩
  obtain ⟨N,es,s,hk⟩:=key;obtain ⟨h1,h2,h3⟩:=hall N es s (List.mem_of_getElem? hk);obtain ⟨⟨a1,a2,a3,a4,a5,a6,a7,a8,a9⟩,g1,g2⟩:=Dw (N:=N) (es:=es) (x:=s) (n:=n) h2 h1 (by omega) h3
  have hlen:0<ui .u64 (IntKind.wrap .i64 ((es.length:Int)+1)):=by
   rw [aK (by omega) (by omega)]
   show 0<(((es.length:Int)+1)%((2 ^ 64:Nat):Int)).toNat
   omega
  unfold yV;rw [aP (by omega),aF hi,aR,Int.toNat_natCast,hk,ah]
  dsimp only
  rw [g1,ah]
  dsimp only
  rw [g2,ah];simp only [decide_true,Bool.and_true,Bool.not_true,cF,ah];rw [cy hlen,FM n e _ N es s h2 h1 hn h3,ah]
  dsimp only
  rw [bf (by omega)]
 have t0:=st 0 (by omega)
 have t1:=st 1 (by omega)
 have t2:=st 2 (by omega)
 have t3:yV n N1 e1 s1 N2 s2 N3 e3 s3 e ((3:Nat):Int)=some (.inr (.inr ())):=rfl;clear st;obtain ⟨k,hk⟩:∃ k,n=k+4:=⟨n-4,by omega⟩
 generalize yV n N1 e1 s1 N2 s2 N3 e3 s3 e=B at *;subst hk;rw [show (0:Int)=((0:Nat):Int) from rfl,aY t0,aY t1,aY t2,aZ t3]
theorem F1 (n x1 x2 x3:Nat) (l4:List (Nat × Nat)) (x8 x9:Nat) (x10:Int) (x11:Nat) (x12:Int) (h8:x8<2 ^ 64) (hn:1073741825<n):F3 n x1 x2 x3 l4 x8 x9 x10 x11 x12=some true:=by
 obtain ⟨N,es,g1,hok⟩:=KI n x1 x2 x3 l4 (by omega)
 obtain ⟨M,rfl,hO⟩:=kh hok;obtain ⟨w1,g2,a1,a2⟩:=xR n M x8 es hO.le h8 (by omega)
 obtain ⟨w2,g3,b1,b2⟩:=xR n M 18446744073709551615 es hO.le (by decide) (by omega)
 obtain ⟨N',es',x',g4,c1,c2⟩:=Jx n x9 x10 x11 (M:Int) es w1 hO.len a1;have key:∃ w3,(ob (ob (ob (II n N' es') fun r137=>br (decide (r137=0)) (ob (IC n x') fun r140=>some (decide (9<r140))) (some false)) fun v135=>br (v135) (ob (Ix n N' es' x') fun r145=>some r145) (some x')) fun v129=>some ((M:Int),es,w1,(M:Int),w2,N',es',v129))=some ((M:Int),es,w1,(M:Int),w2,N',es',w3)∧w3<2 ^ 64∧(m9 N' es'=true→rk w3 64≤9):=by
  rw [xY n N' es' (by omega) (by omega),ah]
  unfold FC
  by_cases hk:m9 N' es'=true
  ·obtain ⟨M',rfl,hO'⟩:=kh hk;rw [if_pos hk,decide_eq_true rfl,cd,s5 n x' c2 (by omega),ah,ah]
   by_cases h9:9<rk x' 64
   ·obtain ⟨w,g5,d1,d2⟩:=xR n M' x' es' hO'.le c2 (by omega)
    rw [decide_eq_true (show (9:Int)<((rk x' 64:Nat):Int) by omega),cd,g5]
    exact ⟨w,rfl,d1,fun _=>d2⟩
   ·rw [decide_eq_false (show ¬ (9:Int)<((rk x' 64:Nat):Int) by omega)]
    exact ⟨x',rfl,c2,fun _=>by omega⟩
  ·rw [if_neg hk];exact ⟨x',rfl,c2,fun h=>absurd h hk⟩
 obtain ⟨w3,g5,d1,d2⟩:=key;unfold F3;simp only [F8,ah,Bool.not_true,cF,g1,g2,g3,g4];rw [g5];simp only [ah];rw [FZ n (M:Int) es w1 (M:Int) w2 N' es' w3 x12 (fun N es2 s h=>by
  rcases List.mem_cons.1 h with h | h
  ·cases h; exact ⟨hO.len,a1,fun _=>a2⟩
  ·rcases List.mem_cons.1 h with h | h
   ·cases h; exact ⟨hO.len,b1,fun _=>b2⟩
   ·rcases List.mem_cons.1 h with h | h
    ·cases h; exact ⟨c1,d1,d2⟩
    ·cases h) hn]
 rfl
end Go.Proofs.YtookeaakpiefjaaGreatDoor
end
