/- A part of the proof. -/
import Derived.Test.YtookeaakpiefjaaGreatDoorTf6
import Derived.Lib.Mul64
section
namespace Go.Proofs.YtookeaakpiefjaaGreatDoor
open Go Go.Ab Go.Ab.W Go.Ab.T30
def eG (es:List (Int × Int)) (x:Nat) (k:Int):Bool:=decide (0≤k∧k<(es.length:Int)) && x.testBit (eg es k).1 && x.testBit (eg es k).2
theorem eD {es:List (Int × Int)} {x:Nat} {k:Int} (h:eG es x k=true):Vl es k∧x.testBit (eg es k).1=true∧x.testBit (eg es k).2=true:=by
 simp only[eG,Bool.and_eq_true,decide_eq_true_eq] at h;exact⟨h.1.1,h.1.2,h.2⟩
theorem rV (n x a b:Nat) (hx:x<2 ^ 64) (ha:a<64) (hb:b<64):J6 n x (a:Int) (b:Int)=some (x.testBit a && x.testBit b):=by
 unfold J6;rw[decide_eq_true (Int.natCast_nonneg a),decide_eq_true (Int.natCast_nonneg b),aS,aS,Int.toNat_natCast,Int.toNat_natCast,vN hx (by omega),vN hx (by omega)]
 cases x.testBit a<;>rfl
def Le (es:List (Int × Int)) (x:Nat):Int→List Int→Bool
 | _,[]=>true
 | p,k::l=>eG es x k && decide (p<k) && Le es x k l
theorem xl {es:List (Int × Int)} {x:Nat}:∀{l:List Int} {p:Int},Le es x p l=true→∀k ∈ l,eG es x k=true∧p<k
 | [],_,_,k,hk=>by cases hk
 | a::l,p,h,k,hk=>by
  simp only[Le,Bool.and_eq_true,decide_eq_true_eq] at h;rcases List.mem_cons.1 hk with rfl|hk
  ·exact h.1
  ·have:=xl h.2 k hk;exact⟨this.1,by omega⟩
theorem DG {es:List (Int × Int)} {x:Nat}:∀{l:List Int} {p:Int},Le es x p l=true→l.Pairwise (· < ·)
 | [],_,_=>.nil
 | a::l,p,h=>by
  simp only[Le,Bool.and_eq_true,decide_eq_true_eq] at h;exact List.pairwise_cons.2 ⟨fun k hk=>(xl h.2 k hk).2,DG h.2⟩
structure Fst (p:List Int) (r:Nat→Nat):Prop where
 len:p.length=64
 at_:∀v,v<64→∃y:Nat,p[v]? = some (y:Int)∧y≤v∧(y=v→r v=v)∧(y≠v→r v=r y)
theorem Fst.root {p:List Int} {r:Nat→Nat} (h:Fst p r) (n0:Nat):∀(v n:Nat),v<64→v<n→bV (gI n0 p) n (v:Int)=some ((r v:Nat):Int):=by
 intro v
 induction v using Nat.strongRecOn with
 | _ v ih =>
  intro n hv hn;obtain⟨n,rfl⟩:∃n',n=n'+1:=⟨n-1,by omega⟩
  obtain⟨y,h1,h2,h3,h4⟩:=h.at_ v hv;have hb:cg (v:Int) p.length=true:=aD (by rw[h.len]; exact hv)
  by_cases hy:y=v
  ·rw[h3 hy];exact bH (by unfold gI; simp[hb,h1,hy,gd,ob,br])
  ·rw[h4 hy,bm (s':=(y:Int)) (by unfold gI; simp only[hb,aS,Int.toNat_natCast,h1,ah]; rw[decide_eq_false (by omega)]; rfl)]
   exact ih y (by omega) n (by omega) (by omega)
theorem C5 {p:List Int} {r:Nat→Nat} (h:Fst p r) (n v:Nat) (hv:v<64) (hn:64<n):DY n p (v:Int)=some ((r v:Nat):Int):=by
 unfold DY;rw[h.root n v n hv (by omega),ah]
theorem Fst.join {p:List Int} {r:Nat→Nat} {E:List (Nat × Nat)} (h:Fst p r) (hr:Rt r E) {e:Nat × Nat} (h1:e.1<64) (h2:e.2<64):Fst (p.set (max (r e.1) (r e.2)) ((min (r e.1) (r e.2):Nat):Int)) (bh r e):=by
 have l1:=hr.le e.1;have l2:=hr.le e.2;have hM:max (r e.1) (r e.2)<64:=by omega
 have hrM:r (max (r e.1) (r e.2))=max (r e.1) (r e.2):=by
  rcases Nat.le_total (r e.1) (r e.2) with g|g
  ·rw[Nat.max_eq_right g,hr.rr]
  ·rw[Nat.max_eq_left g,hr.rr]
 have hrm:r (min (r e.1) (r e.2))=min (r e.1) (r e.2):=by
  rcases Nat.le_total (r e.1) (r e.2) with g|g
  ·rw[Nat.min_eq_left g,hr.rr]
  ·rw[Nat.min_eq_right g,hr.rr]
 refine⟨by rw[List.length_set,h.len],fun v hv=>?_⟩
 simp only[bh]
 by_cases hvM:v=max (r e.1) (r e.2)
 ·subst hvM;refine⟨min (r e.1) (r e.2),by rw[List.getElem?_set_self (by rw[h.len]; exact hM)],by omega,fun hy=>?_,fun hy=>?_⟩
  ·rw[if_pos hrM]; exact hy
  ·rw[if_pos hrM,hrm,if_neg hy]
 ·obtain⟨y,g1,g2,g3,g4⟩:=h.at_ v hv;refine⟨y,by rw[List.getElem?_set_ne (fun e=>hvM e.symm)]; exact g1,g2,fun hy=>?_,fun hy=>?_⟩
  ·rw[g3 hy,if_neg hvM]
  ·rw[g4 hy]
theorem Kv (n:Nat) (hn:64<n):∃p,P6 n=some p∧Fst p (fun x=>x):=by
 have:=oD (body:=zv n) 64 (fun(s:List Int) (v:Int)=>(s,v)) id (fun i s=>s.length=64∧∀v,v<i→s[v]? = some (v:Int)) (fun s i hi hI=>?_) (fun s _=>?_) (n:=n) (s:=List.replicate 64 (0:Int)) ⟨by simp,fun v hv=>absurd hv (Nat.not_lt_zero _)⟩ hn
 ·obtain⟨p,h1,h2,h3⟩:=this;refine⟨p,?_,h2,fun v hv=>⟨v,h3 v hv,Nat.le_refl _,fun _=>rfl,fun h=>absurd rfl h⟩⟩;unfold P6;have e:(List.replicate (64:Int).toNat (0:Int))=List.replicate 64 0:=rfl;rw[e,decide_eq_true (by decide),aS,show mj ((64:Int).toNat)=true from rfl,aS,h1]; rfl
 ·refine⟨s.set i (i:Int),?_,by rw[List.length_set]; exact hI.1,fun v hv=>?_⟩
  ·unfold zv;have e:((64:Int).toNat)=64:=rfl;have hs:s[i]? = some (s[i]'(by rw[hI.1]; exact hi)):=List.getElem?_eq_getElem _
   simp only[e,decide_eq_true (show((i:Nat):Int)<((64:Nat):Int) by omega),dI,aD hi,aS,Int.toNat_natCast,hs,ah,bt (show i<4611686018427387904 by omega)]
  ·by_cases hvi:v=i
   ·subst hvi; rw[List.getElem?_set_self (by rw[hI.1]; exact hi)]
   ·rw[List.getElem?_set_ne (fun e=>hvi e.symm)]; exact hI.2 v (by omega)
 ·unfold zv;simp[br]
def PM (es:List (Int × Int)) (x:Nat) (l:List Int):Bool:=Le es x (-1) l && decide (l.length+1=rk x 64) && bX (fun v=>v) (l.map (eg es))
theorem CZ {x:Nat} (hx:x<2 ^ 64) (h0:x≠0):1≤rk x 64:=by
 have:=fQ (Nat.pos_of_ne_zero h0) hx;exact ME this.1 (mu hx this.1)
theorem ew (x:Nat):(dH x 64).Nodup:=(JP x 64).imp fun h=>Nat.ne_of_lt h
theorem rz {N:Nat} {es:List (Int × Int)} (h:Okay N es) {x:Nat} {l:List Int} (hl:∀k ∈ l,eG es x k=true):∀e ∈ l.map (eg es),e.1 ∈ dH x 64∧e.2 ∈ dH x 64:=fun e he=>by
 obtain⟨k,hk,rfl⟩:=List.mem_map.1 he;obtain⟨h1,h2,h3⟩:=eD (hl k hk);obtain⟨a,b,_,g2,g3,g4,_⟩:=jr h h1;rw[g2] at h2 h3 ⊢;exact⟨cp.2 ⟨Nat.lt_trans g3 g4,h2⟩,cp.2 ⟨g4,h3⟩⟩
theorem GC {N:Nat} {es:List (Int × Int)} (h:Okay N es) {x v:Nat} {l:List Int} (hx:x<2 ^ 64) (hl:∀k ∈ l,eG es x k=true) (hlen:l.length+1=rk x 64) (hv:x.testBit v=true):bX (fun v=>v) (l.map (eg es))=true↔∀j,x.testBit j=true→Cn (l.map (eg es)) v j:=by
 have h0:=mu hx hv;rw[Gs (ew x) (rz h hl) (cp.2 ⟨h0,hv⟩) (by rw[List.length_map]; exact hlen)]
 exact⟨fun g j hj=>g j (cp.2 ⟨mu hx hj,hj⟩),fun g j hj=>g j (cp.1 hj).2⟩
theorem KR {es:List (Int × Int)} {x:Nat} {l:List Int} (h:PM es x l=true):(∀k ∈ l,eG es x k=true)∧l.length+1=rk x 64∧bX (fun v=>v) (l.map (eg es))=true∧l.Pairwise (· < ·):=by
 simp only[PM,Bool.and_eq_true,decide_eq_true_eq] at h;exact⟨fun k hk=>(xl h.1.1 k hk).1,h.1.2,h.2,DG h.1.1⟩
structure Tr (N:Nat) (es:List (Int × Int)) (x:Nat) (l:List Int):Prop where
 ok:Okay N es
 hx:x<2 ^ 64
 h0:x≠0
 eG:∀k ∈ l,eG es x k=true
 len:l.length+1=rk x 64
 all:bX (fun v=>v) (l.map (eg es))=true
 asc:l.Pairwise (· < ·)
section
variable {N : Nat} {es : List (Int × Int)} {x : Nat} {l : List Int} {at_ to : Nat} {k : Int}
theorem Tr.vl (h:Tr N es x l):∀k ∈ l,Vl es k:=fun k hk=>(eD (h.eG k hk)).1
theorem Tr.cn (h:Tr N es x l) {a b:Nat} (ha:x.testBit a=true) (hb:x.testBit b=true):Cn (l.map (eg es)) a b:=(GC h.ok h.hx h.eG h.len ha).1 h.all b hb
end
theorem zU {a k:Nat} (ha:a<2 ^ 64) (h:k≤64):decide (uw .u64 (uw .u64 (bL .u64 a k) &&& uw .u64 1)=0) = !a.testBit k:=by
 rw[←vN ha h];have hle:uw .u64 (uw .u64 (bL .u64 a k) &&& uw .u64 1)≤1:=by
  have h1:uw .u64 (bL .u64 a k) &&& uw .u64 1≤1:=Nat.and_le_right;have h2:uw .u64 (uw .u64 (bL .u64 a k) &&& uw .u64 1)≤uw .u64 (bL .u64 a k) &&& uw .u64 1:=Nat.mod_le _ _;omega
 generalize uw .u64 (uw .u64 (bL .u64 a k) &&& uw .u64 1)=v at *
 by_cases h0:v=0
 ·subst h0; rfl
 ·have:v=1:=by omega
  subst this; rfl
section
variable {N : Nat} {es : List (Int × Int)} {x : Nat} {l : List Int} {at_ to : Nat}
end
def cb:Nat→Nat→Nat
 | _,0=>1
 | 0,_+1=>0
 | e+1,d+1=>cb e d+cb e (d+1)
theorem ov (e:Nat):cb e 0=1:=by cases e<;>rfl
theorem qA (e d:Nat):cb (e+1) (d+1)=cb e d+cb e (d+1):=rfl
theorem Da {e e':Nat} (h:e≤e') (d:Nat):cb e d≤cb e' d:=by
 induction h with
 | refl=>exact Nat.le_refl _
 | step _ ih =>
  cases d with
  | zero=>rw[ov,ov]; exact Nat.le_refl _
  | succ d=>rw[qA]; omega
theorem pf {α:Type} [DecidableEq α]:∀{l m:List α},l.Nodup→(∀a ∈ l,a ∈ m)→l.length≤m.length
 | [],_,_,_=>Nat.zero_le _
 | a::l,m,hn,h=>by
  rw[List.nodup_cons] at hn;have ha:=h a (by simp)
  have:=pf (l:=l) (m:=m.erase a) hn.2 fun b hb=>(List.mem_erase_of_ne (fun e=>hn.1 (by rw[←e]; exact hb))).2 (h b (by simp[hb]))
  rw[List.length_erase_of_mem ha] at this;have:0<m.length:=List.length_pos_of_mem ha;rw[List.length_cons]; omega
def prs:List Nat→List (Int × Int)
 | []=>[]
 | v::V=>(V.map fun w=>(((v:Nat):Int),((w:Nat):Int)))++prs V
def Om (N:Int) (es:List (Int × Int)) (x:Nat):Int:=if qU N es then(if x=0∨2 ^ N.toNat≤x then 2 else 0) else 180
def il (es:List (Int × Int)) (x i j:Nat):List Int:=((List.range' i j).filter fun(k:Nat)=>eG es x (k:Int)).map fun(k:Nat)=>(k:Int)
theorem JE (es:List (Int × Int)) (x i j:Nat):il es x i (j+1)=if eG es x (i:Int) then(i:Int)::il es x (i+1) j else il es x (i+1) j:=by
 unfold il;rw[List.range'_succ,List.filter_cons]
 split<;>rfl
theorem BP {es:List (Int × Int)} {x i j:Nat} {k:Int} (h:k ∈ il es x i j):eG es x k=true:=by
 obtain⟨m,h1,rfl⟩:=List.mem_map.1 h;exact(List.mem_filter.1 h1).2
theorem F1 (es:List (Int × Int)):∀(L:List Int) (d:Nat) (r:Nat→Nat),(gw es L d r).length≤cb L.length d
 | L,0,r=>by cases L<;>simp[gw,ov]
 | [],d+1,r=>Nat.zero_le _
 | k::L,d+1,r=>by
  have h1:=F1 es L (d+1) r;simp only[gw,List.length_append,List.length_cons,qA]
  split
  ·simp only[List.length_nil]; omega
  ·have h2:=F1 es L d (bh r (eg es k));rw[List.length_map]; omega
end Go.Proofs.YtookeaakpiefjaaGreatDoor
end

section
namespace Go.Proofs.YtookeaakpiefjaaGreatDoor
open Go Go.Ab Go.Ab.W
def vl:List Nat→Nat
 | []=>0
 | d::l=>d+18446744073709551616*vl l
def Wd (l:List Nat):Prop:=∀d ∈ l,d<18446744073709551616
def wp (k:Nat):Nat:=18446744073709551616 ^ k
theorem J7:wp 0=1:=rfl
theorem gW (k:Nat):wp (k+1)=18446744073709551616*wp k:=by unfold wp; rw[Nat.pow_succ,Nat.mul_comm]
theorem Iw (a b:Nat):wp (a+b)=wp a*wp b:=Nat.pow_add _ _ _
theorem xm (k:Nat):0<wp k:=Nat.pow_pos (by decide)
theorem gJ:vl []=0:=rfl
theorem er (d:Nat) (l:List Nat):vl (d::l)=d+18446744073709551616*vl l:=rfl
theorem mQ (a b:List Nat):vl (a++b)=vl a+wp a.length*vl b:=by
 induction a with
 | nil=>simp[vl,wp]
 | cons d a ih=>rw[List.cons_append,er,er,ih,List.length_cons,gW,Nat.mul_add,Nat.mul_assoc,Nat.add_assoc]
theorem kz {l:List Nat} (h:Wd l):vl l<wp l.length:=by
 induction l with
 | nil=>exact Nat.one_pos
 | cons d l ih =>
  have h1:=h d List.mem_cons_self;have h2:=ih fun e he=>h e (List.mem_cons_of_mem _ he);rw[er,List.length_cons,gW];omega
theorem lF (k:Nat):vl (List.replicate k 0)=0:=by
 induction k with
 | zero=>rfl
 | succ k ih=>rw[List.replicate_succ,er,ih]
theorem Wd.nil:Wd []:=fun _ h=>nomatch h
theorem Wd.zeros (k:Nat):Wd (List.replicate k 0):=fun d hd=>by rw[List.eq_of_mem_replicate hd]; decide
theorem Wd.app {a b:List Nat} (ha:Wd a) (hb:Wd b):Wd (a++b):=fun d hd=>(List.mem_append.1 hd).elim (ha d) (hb d)
theorem Wd.left {a b:List Nat} (h:Wd (a++b)):Wd a:=fun d hd=>h d (List.mem_append.2 (.inl hd))
theorem Wd.one {d:Nat} (h:d<18446744073709551616):Wd [d]:=fun e he=>by rw[List.mem_singleton.1 he]; exact h
theorem Wd.at {l:List Nat} (h:Wd l) {i d:Nat} (hi:l[i]? = some d):d<18446744073709551616:=h d (List.mem_of_getElem? hi)
theorem Wd.set {l:List Nat} (h:Wd l) {i d:Nat} (hd:d<18446744073709551616):Wd (l.set i d):=fun e he=>by
 rcases List.mem_or_eq_of_mem_set he with h1|rfl
 ·exact h e h1
 ·exact hd
theorem Wd.take {l:List Nat} (h:Wd l) (k:Nat):Wd (l.take k):=fun d hd=>h d (List.mem_of_mem_take hd)
theorem Wd.drop {l:List Nat} (h:Wd l) (k:Nat):Wd (l.drop k):=fun d hd=>h d (List.mem_of_mem_drop hd)
theorem ey (l:List Nat) (i:Nat) (hi:i≤l.length):vl l=vl (l.take i)+wp i*vl (l.drop i):=by
 have:=mQ (l.take i) (l.drop i);rwa[List.take_append_drop,List.length_take,Nat.min_eq_left hi] at this
theorem kC {l:List Nat} {i d:Nat} (hi:l[i]? = some d):vl (l.drop i)=d+18446744073709551616*vl (l.drop (i+1)):=by
 obtain⟨h1,h2⟩:=List.getElem?_eq_some_iff.1 hi;rw[List.drop_eq_getElem_cons h1,er,h2]
theorem Bt {l:List Nat} {i d:Nat} (e:Nat) (hi:l[i]? = some d):vl (l.set i e)+wp i*d=vl l+wp i*e:=by
 obtain⟨h1,h2⟩:=List.getElem?_eq_some_iff.1 hi;have a:=ey l i (Nat.le_of_lt h1);have b:=ey (l.set i e) i (by rw[List.length_set]; exact Nat.le_of_lt h1)
 have c:(l.set i e)[i]? = some e:=by rw[List.getElem?_set_self h1]
 rw[kC hi] at a;rw[kC c,List.take_set_of_le (Nat.le_refl i),List.drop_set_of_lt (show i<i+1 from Nat.lt_succ_self i)] at b
 rw[a,b,Nat.mul_add,Nat.mul_add];omega
structure Lg (z:Int) (s:Bool) (l:List Nat):Prop where
 wd:Wd l
 last:∀d,l.getLast? = some d→d≠0
 val:z=if s then -(vl l:Int) else(vl l:Int)
 sign:s=true→l≠[]
theorem jX {l:List Nat} (h:∀d,l.getLast? = some d→d≠0) (hl:l≠[]):wp (l.length-1)≤vl l:=by
 obtain⟨a,d,rfl⟩:∃a d,l=a++[d]:=⟨l.dropLast,l.getLast hl,(List.dropLast_concat_getLast hl).symm⟩;have h1:=h d (by simp)
 rw[mQ,List.length_append,List.length_singleton,Nat.add_sub_cancel,er,gJ];have:wp a.length*1≤wp a.length*(d+18446744073709551616*0):=Nat.mul_le_mul_left _ (by omega)
 omega
theorem ko {l:List Nat} (h:∀d,l.getLast? = some d→d≠0):vl l=0↔l = []:=by
 refine⟨fun h1=>?_,fun h1=>by rw[h1]; rfl⟩
 by_cases hl:l = []
 ·exact hl
 ·have:=jX h hl;have:=xm (l.length-1);omega
theorem uL {d:Nat} {l:List Nat} (h:∀e,(d::l).getLast? = some e→e≠0):∀e,l.getLast? = some e→e≠0:=by
 intro e he;cases l with
 | nil=>cases he
 | cons a l=>exact h e (by rw[List.getLast?_cons_cons]; exact he)
theorem HS:∀{l k:List Nat},Wd l→Wd k→(∀d,l.getLast? = some d→d≠0)→(∀d,k.getLast? = some d→d≠0)→vl l=vl k→l=k:=by
 intro l
 induction l with
 | nil=>intro k _ _ _ hk h; exact((ko hk).1 h.symm).symm
 | cons d l ih =>
  intro k wl wk hl hk h;cases k with
  | nil=>exact absurd ((ko hl).1 h) (by simp)
  | cons e k =>
   have h1:=wl d List.mem_cons_self;have h2:=wk e List.mem_cons_self;rw[er,er] at h;have h3:d=e:=by omega
   have h4:vl l=vl k:=by omega
   rw[h3,ih (fun x hx=>wl x (List.mem_cons_of_mem _ hx)) (fun x hx=>wk x (List.mem_cons_of_mem _ hx)) (uL hl) (uL hk) h4]
theorem Lg.inj {z:Int} {s t:Bool} {l k:List Nat} (h:Lg z s l) (h':Lg z t k):s=t∧l=k:=by
 have a:=h.val;have b:=h'.val;have hz:=ko h.last;have hz':=ko h'.last;have e:vl l=vl k:=by
  cases s<;>cases t<;>simp only[Bool.false_eq_true,if_false,if_true] at a b<;>omega
 have e':=HS h.wd h'.wd h.last h'.last e;refine⟨?_,e'⟩;subst e';cases s<;>cases t<;>simp only[Bool.false_eq_true,if_false,if_true] at a b
 ·rfl
 ·exact absurd (hz.1 (by omega)) (h'.sign rfl)
 ·exact absurd (hz.1 (by omega)) (h.sign rfl)
 ·rfl
def tj (s:Bool) (x:Nat):Int:=if s then -(x:Int) else(x:Int)
theorem Lg.zero:Lg 0 false []:={ wd:=Wd.nil,last:=fun _ h=>(nomatch h),val:=rfl,sign:=fun h=>(nomatch h)}
theorem Lg.small {x:Nat} (h0:x≠0) (h:x<18446744073709551616) (s:Bool):Lg (tj s x) s [x]:=⟨Wd.one h,fun d hd=>by simp at hd; omega,by simp[tj,vl],fun _=>by simp⟩
theorem Lg.vC {z:Int} {s:Bool} {l:List Nat} (h:Lg z s l):s=decide (z<0):=by
 have a:=h.val;have hz:=ko h.last;cases s with
 | false=>simp only[Bool.false_eq_true,if_false] at a; rw[decide_eq_false (by omega)]
 | true =>
  simp only[if_true] at a;have:vl l≠0:=fun e=>h.sign rfl (hz.1 e);rw[decide_eq_true (by omega)]
theorem Lg.abs {z:Int} {s:Bool} {l:List Nat} (h:Lg z s l):vl l=z.natAbs:=by
 have a:=h.val;cases s<;>simp only[Bool.false_eq_true,if_false,if_true] at a<;>omega
theorem Lg.Oj {z:Int} {s:Bool} {l:List Nat} (h:Lg z s l):l = []↔z=0:=by
 rw[←ko h.last,h.abs]; omega
theorem Lg.Pk {z:Int} {s:Bool} {l:List Nat} (h:Lg z s l) (hz:z≠0) (hb:z.natAbs<18446744073709551616):l = [z.natAbs]:=by
 have hl:l≠[]:=fun e=>hz (h.Oj.1 e);exact HS h.wd (Wd.one hb) h.last (fun d hd=>by simp at hd; omega) (by rw[h.abs]; simp[vl])
theorem eS {n:Nat} (s:Bool) {l:List Nat} (hl:Wd l) (hb:l.length<4611686018427387904) (hn:l.length<n) :
  ∃t k,kO n s l=some (t,k)∧Lg (tj s (vl l)) t k:=by
 have hL:∀i m,i≤l.length→i<m→vl (l.drop i)=0→∃j,bV (eW n l) m ((i:Nat):Int)=some ((j:Nat):Int)∧j≤l.length∧vl (l.drop j)=0∧∀d,(l.take j).getLast? = some d→d≠0:=by
  intro i
  induction i with
  | zero =>
   intro m _ hm h0;obtain⟨m,rfl⟩:∃m',m=m'+1:=⟨m-1,by omega⟩
   refine⟨0,bH ?_,Nat.zero_le _,h0,fun d hd=>by simp at hd⟩
   unfold eW;rw[aO (by decide)]; rfl
  | succ i ih =>
   intro m hi hm h0;obtain⟨m,rfl⟩:∃m',m=m'+1:=⟨m-1,by omega⟩
   have hi':i<l.length:=hi;have e0:IntKind.wrap .i64 (((i+1:Nat):Int)-1)=((i:Nat):Int):=by rw[aK (by omega) (by omega)]; omega
   have e1:l[((i:Nat):Int).toNat]? = some l[i]:=by simp[hi']
   have e2:l[i]? = some l[i]:=by simp[hi']
   by_cases hz:l[i]=0
   ·have:eW n l ((i+1:Nat):Int)=some (.inl ((i:Nat):Int)):=by
     unfold eW;rw[aV (by omega),e0,aD hi',aS,e1,ah,ah,aV hz]
    rw[bm this];exact ih m (Nat.le_of_lt hi') (by omega) (by rw[kC e2,hz,h0])
   ·refine⟨i+1,bH ?_,hi,h0,fun d hd=>?_⟩
    ·unfold eW;rw[aV (by omega),e0,aD hi',aS,e1,ah,ah,aO hz]
    ·rw[List.getLast?_eq_getElem?,List.length_take,Nat.min_eq_left hi,Nat.add_sub_cancel,List.getElem?_take_of_lt (Nat.lt_succ_self i),e2] at hd;cases hd;exact hz
 obtain⟨j,h1,h2,h3,h4⟩:=hL l.length n (Nat.le_refl _) hn (by rw[List.drop_length]; rfl)
 have hv:vl l=vl (l.take j):=by rw[ey l j h2,h3]; omega
 have hk:okB 0 ((j:Nat):Int) l.length=true:=decide_eq_true ⟨by omega,by omega,by omega⟩
 have ht:(l.drop (0:Int).toNat).take (((j:Nat):Int).toNat-(0:Int).toNat)=l.take j:=by simp
 have hz:=ko h4;unfold kO;rw[h1,ah];cases s with
 | false =>
  refine⟨false,l.take j,?_,hl.take j,h4,?_,fun h=>nomatch h⟩
  ·rw[dt,hk,aS,ht]
  ·rw[hv]; rfl
 | true =>
  refine⟨decide (0<((j:Nat):Int)),l.take j,?_,hl.take j,h4,?_,fun h e=>?_⟩
  ·rw[dI,hk,aS,ht]
  ·rw[hv]
   by_cases hj:0<((j:Nat):Int)
   ·rw[decide_eq_true hj]; rfl
   ·have:j=0:=by omega
    subst this
    rfl
  ·have h5:=of_decide_eq_true h;have:=congrArg List.length e;rw[List.length_take,Nat.min_eq_left h2] at this;simp at this;omega
theorem uq (l:List Nat) (i:Nat):∃y,vl (l.drop i)=y+18446744073709551616*vl (l.drop (i+1))∧(Wd l→y<18446744073709551616) ∧
  (br (decide (((i:Nat):Int)<(l.length:Int))) (gd (cg ((i:Nat):Int) l.length) (ob (l[((i:Nat):Int).toNat]?) fun x=>some x)) (some 0))=some y:=by
 by_cases h:i<l.length
 ·have e2:l[i]? = some l[i]:=by simp[h]
  exact⟨l[i],kC e2,fun w=>w.at e2,by rw[aV (by omega),aD h,aS,Int.toNat_natCast,e2]; rfl⟩
 ·refine⟨0,?_,fun _=>by decide,by rw[aO (by omega)]⟩
  rw[List.drop_eq_nil_of_le (by omega),List.drop_eq_nil_of_le (by omega)]; rfl
theorem yv {a:List Nat} {k e d:Nat}:(a++e::List.replicate k 0).set a.length d=(a++[d])++List.replicate k 0:=by
 rw[List.set_append_right _ _ (Nat.le_refl _),Nat.sub_self,List.set_cons_zero,List.append_assoc]; rfl
theorem qQ (a:List Nat) (d:Nat):vl (a++[d])=vl a+wp a.length*d:=by rw[mQ,er,gJ]; rfl
theorem Jh {n:Nat} {l k:List Nat} (hl:Wd l) (hk:Wd k) (hb:l.length<1073741824) (hb':k.length<1073741824) (hn:l.length<n) (hn':k.length<n) :
  ∃r,Ik n l k=some r∧Wd r∧vl r=vl l+vl k∧r.length≤l.length+k.length+1:=by
 have key:∀a b:List Nat,Wd a→Wd b→a.length<1073741824→b.length≤a.length→a.length<n→∃r,(gd (decide (0≤IntKind.wrap .i64 ((a.length:Int)+1))) (gd (mj ((IntKind.wrap .i64 ((a.length:Int)+1)).toNat)) (
   ob (bV (nj n a b) n ((List.replicate (IntKind.wrap .i64 ((a.length:Int)+1)).toNat (0:Nat)),(IntKind.wrap .i64 ((a.length:Int)+1)).toNat,0,0)) fun(l1,n1,v0) =>
   gd (cg (a.length:Int) n1) (ob (l1[(a.length:Int).toNat]?) fun x3=>some (l1.set ((a.length:Int).toNat) v0)))))=some r∧Wd r∧vl r=vl a+vl b∧r.length=a.length+1:=by
  intro a b ha h4 hba hab hna;have w1:IntKind.wrap .i64 ((a.length:Int)+1)=((a.length+1:Nat):Int):=by rw[aK (by omega) (by omega)]; rfl
  have hL:∀j i m p c,i+j=a.length→j<m→p.length=i→Wd p→c≤1→vl p+wp i*(c+vl (a.drop i)+vl (b.drop i))=vl a+vl b →
    ∃q c',bV (nj n a b) m (p++List.replicate (j+1) 0,a.length+1,c,((i:Nat):Int))=some (q++[0],a.length+1,c')∧q.length=a.length∧Wd q∧c'≤1∧vl q+wp a.length*c'=vl a+vl b:=by
   intro j
   induction j with
   | zero =>
    intro i m p c hij hm hp wp' hc hv;obtain⟨m,rfl⟩:∃m',m=m'+1:=⟨m-1,by omega⟩
    have hi:i=a.length:=by omega
    refine⟨p,c,bH ?_,by omega,wp',hc,?_⟩
    ·unfold nj
     dsimp only
     rw[aO (by omega)]; rfl
    ·subst hi;rw[List.drop_length,List.drop_eq_nil_of_le (by omega),gJ] at hv
     simpa using hv
   | succ j ih =>
    intro i m p c hij hm hp wp' hc hv;obtain⟨m,rfl⟩:∃m',m=m'+1:=⟨m-1,by omega⟩
    have hi:i<a.length:=by omega
    obtain⟨x,e0⟩:∃x,a[i]? = some x:=⟨a[i],by simp[hi]⟩
    have hx:=ha.at e0;obtain⟨y,y1,y2,y3⟩:=uq b i;have y2:=y2 h4;have e1:(p++List.replicate (j+1+1) 0)[((i:Nat):Int).toNat]? = some 0:=by
     rw[Int.toNat_natCast,List.getElem?_append_right (by omega),List.getElem?_replicate]; simp; omega
    have st:nj n a b (p++List.replicate (j+1+1) 0,a.length+1,c,((i:Nat):Int))=some (.inl ((p++[(x+y+c)%18446744073709551616])++List.replicate (j+1) 0,a.length+1,(x+y+c)/18446744073709551616,((i+1:Nat):Int))):=by
     unfold nj
     dsimp only
     rw[aV (by omega),aD hi,aS,Int.toNat_natCast,e0,ah]
     rw[Int.toNat_natCast] at y3 e1;rw[y3,ah];unfold EZ;rw[cq hc,ah]
     dsimp only
     rw[aD (show i<a.length+1 by omega),aS,e1,ah,bt (by omega),←hp,List.replicate_succ,yv]
    rw[bm st];refine ih (i+1) m _ _ (by omega) (by omega) (by rw[List.length_append,hp]; rfl) (wp'.app (Wd.one (Nat.mod_lt _ (by decide)))) (by omega) ?_
    rw[←hv,qQ,hp,gW,kC e0,y1];have h1:∀s:Nat,s=s%18446744073709551616+18446744073709551616*(s/18446744073709551616):=fun s=>(Nat.mod_add_div s _).symm;have h0:=h1 (x+y+c);generalize (x+y+c)%18446744073709551616=lo at h0 ⊢;generalize (x+y+c)/18446744073709551616=hi' at h0 ⊢;have h2:c+(x+18446744073709551616*vl (a.drop (i+1)))+(y+18446744073709551616*vl (b.drop (i+1)))=lo+18446744073709551616*(hi'+vl (a.drop (i+1))+vl (b.drop (i+1))):=by omega
    rw[h2,Nat.mul_add (wp i),Nat.mul_left_comm (wp i),←Nat.mul_assoc,Nat.add_assoc,Nat.add_assoc]
  obtain⟨q,c',h1,h0,h2,h3,h5⟩:=hL a.length 0 n [] 0 (by omega) hna rfl Wd.nil (by omega) (by simp[vl,wp])
  refine⟨q++[c'],?_,h2.app (Wd.one (by omega)),by rw[qQ,h0,h5],by rw[List.length_append,h0]; rfl⟩
  rw[w1,cq (by omega)]
  have hlim:mj ((a.length+1:Nat):Int).toNat=true:=fR (by omega)
  rw[hlim,aS,Int.toNat_natCast];rw[show(List.replicate (a.length+1) (0:Nat),a.length+1,(0:Nat),(0:Int))=(([]:List Nat)++List.replicate (a.length+1) 0,a.length+1,0,((0:Nat):Int)) from rfl,h1,ah]
  dsimp only
  rw[aD (Nat.lt_succ_self _),aS,Int.toNat_natCast,←h0,List.getElem?_append_right (Nat.le_refl _),Nat.sub_self];rw[show([0]:List Nat)[0]? = some 0 from rfl,ah,List.set_append_right _ _ (Nat.le_refl _),Nat.sub_self]
  rfl
 unfold Ik
 by_cases h:l.length<k.length
 ·rw[aV (by omega),ah]
  obtain⟨r,h1,h0,h2,h3⟩:=key k l hk hl hb' (Nat.le_of_lt h) hn';exact⟨r,h1,h0,by omega,by omega⟩
 ·rw[aO (by omega),ah]
  obtain⟨r,h1,h0,h2,h3⟩:=key l k hl hk hb (by omega) hn
  exact⟨r,h1,h0,h2,by omega⟩
theorem Dr {n:Nat} {l k:List Nat} (hl:Wd l) (hk:Wd k) (ll:∀d,l.getLast? = some d→d≠0) (lk:∀d,k.getLast? = some d→d≠0) (hb:l.length<1073741824) (hb':k.length<1073741824) (hn:l.length<n) :
  ∃r:Int,DR n l k=some r∧(r<0↔vl l<vl k)∧(0<r↔vl k<vl l):=by
 have big:∀a b:List Nat,Wd a→(∀d,b.getLast? = some d→d≠0)→a.length<b.length→vl a<vl b:=by
  intro a b ha hb h;have h1:=kz ha;have h2:=jX hb (by intro e; rw[e] at h; exact Nat.not_lt_zero _ h)
  have h3:wp a.length≤wp (b.length-1):=Nat.pow_le_pow_right (by decide) (by omega)
  omega
 unfold DR
 by_cases h:l.length=k.length
 ·rw[decide_eq_true (show(l.length:Int)=(k.length:Int) by omega),Bool.not_true,dt]
  have hL:∀i m,i≤l.length→i<m→vl (l.drop i)=vl (k.drop i)→∃r,bV (kZ n l k) m ((i:Int)-1)=some r ∧
    ((r = .inl (-1)∧vl l<vl k)∨(r = .inl 1∧vl k<vl l)∨(r = .inr ()∧vl l=vl k)):=by
   intro i
   induction i with
   | zero =>
    intro m _ hm h0;obtain⟨m,rfl⟩:∃m',m=m'+1:=⟨m-1,by omega⟩
    refine⟨.inr (),bH ?_,.inr (.inr ⟨rfl,by simpa using h0⟩)⟩
    unfold kZ;rw[aO (by decide)]
   | succ i ih =>
    intro m hi hm h0;obtain⟨m,rfl⟩:∃m',m=m'+1:=⟨m-1,by omega⟩
    obtain⟨x,e2⟩:∃x,l[i]? = some x:=⟨l[i],by simp⟩
    obtain⟨y,e3⟩:∃y,k[i]? = some y:=⟨k[i],by simp⟩
    have a1:=kC e2;have a2:=kC e3;have a3:=ey l i (by omega)
    have a4:=ey k i (by omega)
    have t1:=kz (hl.take i);have t2:=kz (hk.take i);rw[List.length_take,Nat.min_eq_left (by omega)] at t1 t2
    have e0:((i+1:Nat):Int)-1=((i:Nat):Int):=by omega
    rw[e0];rcases Nat.lt_trichotomy x y with hxy|hxy|hxy
    ·refine⟨.inl (-1),bH ?_,.inl ⟨rfl,?_⟩⟩
     ·unfold kZ;rw[aV (by omega),aD (by omega),aS,Int.toNat_natCast,e2,ah,aD (by omega),aS,e3,ah,aV hxy]
     ·have:wp i*(vl (l.drop i)+1)≤wp i*vl (k.drop i):=Nat.mul_le_mul_left _ (by omega)
      rw[Nat.mul_add] at this;omega
    ·have st:kZ n l k ((i:Nat):Int)=some (.inl (((i:Nat):Int)-1)):=by
      unfold kZ;rw[aV (by omega),aD (by omega),aS,Int.toNat_natCast,e2,ah,aD (by omega),aS,e3,ah,aO (by omega),aS,aS,aO (by omega),aK (by omega) (by omega)]
     rw[bm st];exact ih m (by omega) (by omega) (by omega)
    ·refine⟨.inl 1,bH ?_,.inr (.inl ⟨rfl,?_⟩)⟩
     ·unfold kZ;rw[aV (by omega),aD (by omega),aS,Int.toNat_natCast,e2,ah,aD (by omega),aS,e3,ah,aO (by omega),aS,aS,aV hxy]
     ·have:wp i*(vl (k.drop i)+1)≤wp i*vl (l.drop i):=Nat.mul_le_mul_left _ (by omega)
      rw[Nat.mul_add] at this;omega
  obtain⟨r,h1,h2⟩:=hL l.length n (Nat.le_refl _) hn (by rw[List.drop_length,h,List.drop_length])
  rw[aK (by omega) (by omega),h1,ah]
  rcases h2 with⟨rfl,h2⟩|⟨rfl,h2⟩|⟨rfl,h2⟩
  ·exact⟨-1,rfl,by omega,by omega⟩
  ·exact⟨1,rfl,by omega,by omega⟩
  ·exact⟨0,rfl,by omega,by omega⟩
 ·rw[decide_eq_false (show ¬(l.length:Int)=(k.length:Int) by omega),Bool.not_false,dI]
  refine⟨_,rfl,?_,?_⟩<;>rw[aK (by omega) (by omega)]
  ·refine⟨fun h1=>big l k hl lk (by omega),fun h1=>?_⟩
   by_cases h2:l.length<k.length
   ·omega
   ·have:=big k l hk ll (by omega); omega
  ·refine⟨fun h1=>big k l hk ll (by omega),fun h1=>?_⟩
   by_cases h2:k.length<l.length
   ·omega
   ·have:=big l k hl lk (by omega); omega
theorem xo {n:Nat} {l k:List Nat} (hl:Wd l) (hk:Wd k) (hle:vl k≤vl l) (hlk:k.length≤l.length) (hb:l.length<1073741824) (hn:l.length<n) :
  ∃r,EC n l k=some r∧Wd r∧vl r=vl l-vl k∧r.length=l.length:=by
 have hL:∀j i m p c,i+j=l.length→j<m→p.length=i→Wd p→c≤1→vl p+wp i*vl (l.drop i)+vl k=vl l+wp i*(c+vl (k.drop i)) →
   ∃q c',bV (pd n l k) m (p++List.replicate j 0,c,((i:Nat):Int))=some q∧q.length=l.length∧Wd q∧c'≤1∧vl q+vl k=vl l+wp l.length*c':=by
  intro j
  induction j with
  | zero =>
   intro i m p c hij hm hp wp' hc hv;obtain⟨m,rfl⟩:∃m',m=m'+1:=⟨m-1,by omega⟩
   have hi:i=l.length:=by omega
   refine⟨p,c,bH ?_,by omega,wp',hc,?_⟩
   ·unfold pd
    dsimp only
    rw[aO (by omega),List.replicate_zero,List.append_nil]
   ·subst hi;rw[List.drop_length,List.drop_eq_nil_of_le (by omega),gJ] at hv
    simpa using hv
  | succ j ih =>
   intro i m p c hij hm hp wp' hc hv;obtain⟨m,rfl⟩:∃m',m=m'+1:=⟨m-1,by omega⟩
   have hi:i<l.length:=by omega
   obtain⟨x,e2⟩:∃x,l[i]? = some x:=⟨l[i],by simp[hi]⟩
   have hx:=hl.at e2;obtain⟨y,y1,y2,y3⟩:=uq k i;have y2:=y2 hk;have e3:(p++List.replicate (j+1) 0)[((i:Nat):Int).toNat]? = some 0:=by
    rw[Int.toNat_natCast,List.getElem?_append_right (by omega),List.getElem?_replicate]; simp; omega
   have st:pd n l k (p++List.replicate (j+1) 0,c,((i:Nat):Int))=some (.inl ((p++[(x+18446744073709551616-y-c)%18446744073709551616])++List.replicate j 0,if x<y+c then 1 else 0,((i+1:Nat):Int))):=by
    unfold pd
    dsimp only
    rw[aV (by omega),aD hi,aS,Int.toNat_natCast,e2,ah]
    rw[Int.toNat_natCast] at y3 e3;rw[y3,ah];unfold JO;rw[cq hc,ah]
    dsimp only
    rw[Int.toNat_natCast,aD hi,aS,e3,ah,bt (by omega),←hp,List.replicate_succ,yv]
   rw[bm st];refine ih (i+1) m _ _ (by omega) (by omega) (by rw[List.length_append,hp]; rfl) (wp'.app (Wd.one (Nat.mod_lt _ (by decide)))) (by split<;>omega) ?_
   rw[kC e2,y1] at hv;rw[qQ,hp,gW];have h2:(x+18446744073709551616-y-c)%18446744073709551616+y+c=x+18446744073709551616*(if x<y+c then 1 else 0):=by split<;>omega
   generalize (x+18446744073709551616-y-c)%18446744073709551616=lo at h2 ⊢;generalize (if x<y+c then 1 else 0)=hi' at h2 ⊢
   generalize vl (l.drop (i+1))=A at hv ⊢;generalize vl (k.drop (i+1))=D at hv ⊢;have h3:wp i*(lo+y+c)=wp i*(x+18446744073709551616*hi'):=by rw[h2]
   simp only[Nat.mul_add,Nat.mul_left_comm (wp i) 18446744073709551616,Nat.mul_assoc] at hv h3 ⊢;omega
 obtain⟨q,c',h1,h2,h3,h4,h5⟩:=hL l.length 0 n [] 0 (by omega) hn rfl Wd.nil (by omega) (by simp[vl,wp])
 refine⟨q,?_,h3,?_,h2⟩
 ·unfold EC;rw[cq (by omega),Int.toNat_natCast,fR (by omega),aS]
  rw[show(List.replicate l.length (0:Nat),(0:Nat),(0:Int))=(([]:List Nat)++List.replicate l.length 0,0,((0:Nat):Int)) from rfl,h1,ah]
 ·have h6:=kz h3;rw[h2] at h6;have:c'=0:=by
   rcases Nat.le_one_iff_eq_zero_or_eq_one.1 h4 with e|e
   ·exact e
   ·rw[e] at h5; omega
  rw[this] at h5;omega
theorem nV (s:Bool):tj s 0=0:=by cases s<;>rfl
theorem vv {n:Nat} {a b:Int} {s t:Bool} {l k:List Nat} (h:Lg a s l) (h':Lg b t k) (hb:l.length<1000000) (hb':k.length<1000000) (hn:l.length+k.length+1<n) :
  ∃u m,o9 n s l t k=some (u,m)∧Lg (a+b) u m:=by
 have av:=h.val;have bv:=h'.val;unfold o9
 by_cases e:s=t
 ·subst e;rw[beq_self_eq_true,dI];obtain⟨r,r1,r2,r3,r4⟩:=Jh (n:=n) h.wd h'.wd (by omega) (by omega) (by omega) (by omega)
  obtain⟨u,m,m1,m2⟩:=eS (n:=n) s r2 (by omega) (by omega)
  refine⟨u,m,by rw[r1,ah,m1]; rfl,?_⟩
  have:a+b=tj s (vl r):=by rw[av,bv,r3]; unfold tj; cases s<;>simp<;>omega
  rw[this]; exact m2
 ·have:(s == t)=false:=by cases s<;>cases t<;>simp_all
  rw[this,dt];obtain⟨r,r1,r2,r3⟩:=Dr (n:=n) h.wd h'.wd h.last h'.last (by omega) (by omega) (by omega)
  have ht:t = !s:=by cases s<;>cases t<;>simp_all
  have longer:∀p q:List Nat,Wd p→Wd q→(∀d,p.getLast? = some d→d≠0)→(∀d,q.getLast? = some d→d≠0)→vl p≤vl q→p.length≤q.length:=by
   intro p q wp1 wq1 lp lq hle;refine Nat.le_of_not_lt fun hlt=>?_;have h1:=kz wq1;have h2:=jX lp (by intro e; rw[e] at hlt; exact Nat.not_lt_zero _ hlt)
   have h3:wp q.length≤wp (p.length-1):=Nat.pow_le_pow_right (by decide) (by omega)
   omega
  rw[r1,ah]
  by_cases hr:r<0
  ·have hv:=r2.1 hr;obtain⟨m,m1,m2,m3,m4⟩:=xo (n:=n) h'.wd h.wd (Nat.le_of_lt hv) (longer _ _ h.wd h'.wd h.last h'.last (Nat.le_of_lt hv)) (by omega) (by omega)
   obtain⟨u,m',u1,u2⟩:=eS (n:=n) t m2 (by omega) (by omega)
   refine⟨u,m',by rw[aV hr,ah]; dsimp only; rw[m1,ah,u1]; rfl,?_⟩
   have:a+b=tj t (vl m):=by rw[av,bv,m3,ht]; unfold tj; cases s<;>simp<;>omega
   rw[this]; exact u2
  ·have hv:vl k≤vl l:=Nat.le_of_not_lt fun h=>hr (r2.2 h);obtain⟨m,m1,m2,m3,m4⟩:=xo (n:=n) h.wd h'.wd hv (longer _ _ h'.wd h.wd h'.last h.last hv) (by omega) (by omega)
   obtain⟨u,m',u1,u2⟩:=eS (n:=n) s m2 (by omega) (by omega)
   refine⟨u,m',by rw[aO hr,ah]; dsimp only; rw[m1,ah,u1]; rfl,?_⟩
   have:a+b=tj s (vl m):=by rw[av,bv,m3,ht]; unfold tj; cases s<;>simp<;>omega
   rw[this]; exact u2
theorem IT {n:Nat} {a:Int} {s:Bool} {l:List Nat} (h:Lg a s l) (hb:l.length<1000000) (hn:l.length<n):∃u m,Bk n s l=some (u,m)∧Lg (-a) u m:=by
 obtain⟨u,m,m1,m2⟩:=eS (n:=n) (!s) h.wd (by omega) hn
 refine⟨u,m,by unfold Bk; rw[m1]; rfl,?_⟩
 have : -a=tj (!s) (vl l):=by rw[h.val]; unfold tj; cases s<;>simp
 rw[this]; exact m2
theorem Lg.len {a:Int} {s:Bool} {l:List Nat} (h:Lg a s l) {k:Nat} (hk:a.natAbs<wp k):l.length≤k:=by
 refine Nat.le_of_not_lt fun hlt=>?_;have h2:=jX h.last (by intro e; rw[e] at hlt; exact Nat.not_lt_zero _ hlt)
 have h3:wp k≤wp (l.length-1):=Nat.pow_le_pow_right (by decide) (by omega)
 have:=h.abs;omega
theorem Lg.up {a:Int} {s:Bool} {l:List Nat} (h:Lg a s l):a.natAbs<wp l.length:=by
 rw[←h.abs]; exact kz h.wd
theorem Fj {n:Nat} {a b:Int} {s t:Bool} {l k:List Nat} (h:Lg a s l) (h':Lg b t k) (hb:l.length<1000000) (hb':k.length<1000000) (hn:l.length+k.length+1<n) :
  ∃u m,On n s l t k=some (u,m)∧Lg (a-b) u m:=by
 obtain⟨u,m,m1,m2⟩:=IT (n:=n) h' hb' (by omega)
 have hm:m.length≤k.length:=m2.len (by rw[Int.natAbs_neg]; exact h'.up)
 obtain⟨v,q,q1,q2⟩:=vv (n:=n) h m2 hb (by omega) (by omega)
 exact⟨v,q,by unfold On; rw[m1,ah]; dsimp only; rw[q1]; rfl,q2⟩
theorem vH {n:Nat} {a:Int} {s:Bool} {l:List Nat} (h:Lg a s l):∃r,I0 n s l=some r∧(r<0↔a<0)∧(r=0↔a=0):=by
 have h1:=h.vC;have h2:=h.Oj;unfold I0;cases s with
 | true =>
  have:=of_decide_eq_true h1.symm;exact⟨-1,rfl,by omega,by omega⟩
 | false =>
  have:=of_decide_eq_false h1.symm;rw[dt]
  by_cases hl:l = []
  ·subst hl;have:=h2.1 rfl;exact⟨0,rfl,by omega,by omega⟩
  ·have:¬a=0:=fun e=>hl (h2.2 e);have:¬(l.length:Int)=0:=fun e=>hl (List.eq_nil_of_length_eq_zero (by omega))
   rw[aO this];exact⟨1,rfl,by omega,by omega⟩
theorem yp {a:Nat} (ha:a<18446744073709551616):uw .u64 (uw .u64 a &&& uw .u64 4294967295)=a%4294967296:=by
 rw[ik ha (by decide)]
 exact Nat.and_two_pow_sub_one_eq_mod a 32
theorem GK (a:Nat):bL .u64 a 32=a/4294967296:=rfl
theorem qf {a:Nat} (h:a<18446744073709551616):uw .u64 a=a:=Nat.mod_eq_of_lt h
theorem Jr (n:Nat) {x y:Nat} (hx:x<18446744073709551616) (hy:y<18446744073709551616):Gc n x y=some (x*y/18446744073709551616,x*y%18446744073709551616):=by
 obtain⟨b1,b2,b3,hhi⟩:=Lib.mul64_hi x y hx hy;have ba:=Lib.half_mul_le (a:=x/4294967296) (b:=y/4294967296) (by omega) (by omega)
 have bb:=Lib.half_mul_le (a:=x/4294967296) (b:=y%4294967296) (by omega) (by omega)
 have bc:=Lib.half_mul_le (a:=x%4294967296) (b:=y/4294967296) (by omega) (by omega)
 unfold Gc;simp only[yp hx,yp hy,GK,ah];rw[qf b1,qf (a:=x/4294967296*(y%4294967296)) (by omega)]
 rw[qf b2,yp b2,qf (a:=x%4294967296*(y/4294967296)) (by omega),qf b3,qf (a:=x/4294967296*(y/4294967296)) (by omega)]
 rw[qf (a:=x/4294967296*(y/4294967296)+_) (by omega),qf (by omega),hhi]
 rfl
theorem JF {n:Nat} {k:List Nat} (hk:Wd k) {x i N:Nat} (hx:x<18446744073709551616) (hN:i+k.length<N) (hNb:N<4611686018427387904) {b:List Nat} (_:Wd b) (hbN:b.length=N) :
  ∀r j m cur c,j+r=k.length→r<m→Wd cur→cur.length=N→c<18446744073709551616→(∀p,i+k.length≤p→cur[p]? = b[p]?) →
   vl cur+wp (i+j)*c+wp (i+j)*(x*vl (k.drop j))=vl b+wp i*(x*vl k) →
   ∃q c',bV (oP n k x (i:Int) N) m (cur,c,((j:Nat):Int))=some (q,c')∧Wd q∧q.length=N∧c'<18446744073709551616∧(∀p,i+k.length≤p→q[p]? = b[p]?)∧vl q+wp (i+k.length)*c'=vl b+wp i*(x*vl k):=by
 intro r
 induction r with
 | zero =>
  intro j m cur c hj hm hw hl hc hp hv;obtain⟨m,rfl⟩:∃m',m=m'+1:=⟨m-1,by omega⟩
  have hj':j=k.length:=by omega
  refine⟨cur,c,bH ?_,hw,hl,hc,hp,?_⟩
  ·unfold oP
   dsimp only
   rw[aO (by omega)]
  ·rw[←hv,hj',List.drop_length,gJ]; omega
 | succ r ih =>
  intro j m cur c hj hm hw hl hc hp hv;obtain⟨m,rfl⟩:∃m',m=m'+1:=⟨m-1,by omega⟩
  have hi:j<k.length:=by omega
  obtain⟨y,e2⟩:∃y,k[j]? = some y:=⟨k[j],by simp[hi]⟩
  have hy:=hk.at e2;obtain⟨d,e3⟩:∃d,cur[i+j]? = some d:=⟨cur[i+j]'(by omega),by simp⟩
  have hd:=hw.at e3;have hxy:x*y≤18446744073709551615*18446744073709551615:=Nat.mul_le_mul (by omega) (by omega)
  have w1:IntKind.wrap .i64 ((i:Int)+((j:Nat):Int))=((i+j:Nat):Int):=by rw[aK (by omega) (by omega)]; omega
  have st:oP n k x (i:Int) N (cur,c,((j:Nat):Int))=some (.inl (cur.set (i+j) ((x*y+d+c)%18446744073709551616),(x*y+d+c)/18446744073709551616,((j+1:Nat):Int))):=by
   unfold oP
   dsimp only
   rw[aV (by omega),aD hi,aS,Int.toNat_natCast,e2,ah,Jr n hx hy,ah]
   dsimp only
   rw[w1,aD (by omega),aS,Int.toNat_natCast,e3,ah]
   unfold EZ;rw[cq (by omega),ah]
   dsimp only
   rw[cq (by omega),ah]
   dsimp only
   rw[aS,bt (by omega),qf (a:=x*y/18446744073709551616+_) (by omega),qf (by omega)]
   congr 3
   ·congr 1; omega
   ·congr 1; omega
  rw[bm st];refine ih (j+1) m _ _ (by omega) (by omega) (hw.set (Nat.mod_lt _ (by decide))) (by rw[List.length_set]; exact hl) (by omega) (fun p hp'=>by rw[List.getElem?_set_ne (by omega)]; exact hp p hp') ?_
  rw[kC e2] at hv;have hs:=Bt ((x*y+d+c)%18446744073709551616) e3;rw[←hv,←Nat.add_assoc i j 1,gW];have h2:(x*y+d+c)%18446744073709551616+18446744073709551616*((x*y+d+c)/18446744073709551616)=x*y+d+c:=Nat.mod_add_div _ _;generalize (x*y+d+c)%18446744073709551616=lo at h2 hs ⊢;generalize (x*y+d+c)/18446744073709551616=hi' at h2 ⊢;generalize vl (k.drop (j+1))=A at hv ⊢;generalize vl (cur.set (i+j) lo)=Z at hs ⊢;have h3:wp (i+j)*(lo+18446744073709551616*hi')=wp (i+j)*(x*y+d+c):=by rw[h2]
  simp only[Nat.mul_add,Nat.mul_left_comm (wp (i+j)) 18446744073709551616,Nat.mul_left_comm x 18446744073709551616,Nat.mul_assoc] at hs h3 ⊢;omega
theorem J4 {n:Nat} {l k:List Nat} (hl:Wd l) (hk:Wd k) (hb:l.length<500000000) (hb':k.length<500000000) (hn:l.length<n) (hn':k.length<n) :
  ∃r,H3 n l k=some r∧Wd r∧vl r=vl l*vl k∧r.length=l.length+k.length:=by
 have hL:∀r i m b,i+r=l.length→r<m→Wd b→b.length=l.length+k.length→(∀p,i+k.length≤p→p<l.length+k.length→b[p]? = some 0) →
   vl b+wp i*(vl (l.drop i)*vl k)=vl l*vl k →
   ∃q,bV (pz n l k) m (b,l.length+k.length,((i:Nat):Int))=some (q,l.length+k.length)∧Wd q∧q.length=l.length+k.length∧vl q=vl l*vl k:=by
  intro r
  induction r with
  | zero =>
   intro i m b hi hm hw hlen _ hv;obtain⟨m,rfl⟩:∃m',m=m'+1:=⟨m-1,by omega⟩
   have hi':i=l.length:=by omega
   refine⟨b,bH ?_,hw,hlen,?_⟩
   ·unfold pz
    dsimp only
    rw[aO (by omega)]
   ·rw[←hv,hi',List.drop_length,gJ]; simp
  | succ r ih =>
   intro i m b hi hm hw hlen hz hv;obtain⟨m,rfl⟩:∃m',m=m'+1:=⟨m-1,by omega⟩
   have hi':i<l.length:=by omega
   obtain⟨x,e2⟩:∃x,l[i]? = some x:=⟨l[i],by simp⟩
   have hx:=hl.at e2;obtain⟨q,c,q1,q2,q3,q4,q5,q6⟩:=JF (n:=n) (i:=i) hk hx (N:=l.length+k.length) (by omega) (by omega) hw hlen k.length 0 n b 0 (by omega) hn' hw hlen (by decide) (fun _ _=>rfl) (by simp)
   have e3:q[i+k.length]? = some 0:=by rw[q5 _ (Nat.le_refl _)]; exact hz _ (Nat.le_refl _) (by omega)
   have w1:IntKind.wrap .i64 ((i:Int)+(k.length:Int))=((i+k.length:Nat):Int):=by rw[aK (by omega) (by omega)]; omega
   have st:pz n l k (b,l.length+k.length,((i:Nat):Int))=some (.inl (q.set (i+k.length) c,l.length+k.length,((i+1:Nat):Int))):=by
    unfold pz
    dsimp only
    rw[aV (by omega),aD hi',aS,Int.toNat_natCast,e2,ah]
    rw[show((0:Int))=((0:Nat):Int) from rfl,q1,ah]
    dsimp only
    rw[w1,aD (by omega),aS,Int.toNat_natCast,e3,ah,bt (by omega)]
   rw[bm st];refine ih (i+1) m _ (by omega) (by omega) (q2.set q4) (by rw[List.length_set]; exact q3) (fun p h1 h2=>by rw[List.getElem?_set_ne (by omega),q5 p (by omega)]; exact hz p (by omega) h2) ?_
   have hs:=Bt c e3;rw[kC e2] at hv;rw[←hv,gW];generalize vl (q.set (i+k.length) c)=Z at hs ⊢;generalize vl (l.drop (i+1))=A at hv ⊢;have h4:wp i*((x+18446744073709551616*A)*vl k)=wp i*(x*vl k)+18446744073709551616*wp i*(A*vl k):=by
    simp only[Nat.add_mul,Nat.mul_add,Nat.mul_assoc,Nat.mul_left_comm (wp i) 18446744073709551616]
   rw[h4];omega
 unfold H3;have w1:IntKind.wrap .i64 ((l.length:Int)+(k.length:Int))=((l.length+k.length:Nat):Int):=by rw[aK (by omega) (by omega)]; omega
 obtain⟨q,q1,q2,q3,q4⟩:=hL l.length 0 n (List.replicate (l.length+k.length) 0) (by omega) hn (Wd.zeros _) (by simp) (fun p _ h2=>by rw[List.getElem?_replicate]; simp[h2]) (by rw[lF,J7]; simp)
 refine⟨q,?_,q2,q4,q3⟩;rw[w1,cq (by omega),Int.toNat_natCast,fR (by omega),aS]
 rw[show((0:Int))=((0:Nat):Int) from rfl,q1]
 rfl
theorem ou {n:Nat} {a b:Int} {s t:Bool} {l k:List Nat} (h:Lg a s l) (h':Lg b t k) (hb:l.length<1000000) (hb':k.length<1000000) (hn:l.length+k.length<n) :
  ∃u m,wO n s l t k=some (u,m)∧Lg (a*b) u m:=by
 obtain⟨r,r1,r2,r3,r4⟩:=J4 (n:=n) h.wd h'.wd (by omega) (by omega) (by omega) (by omega)
 obtain⟨u,m,m1,m2⟩:=eS (n:=n) (!(s == t)) r2 (by omega) (by omega)
 refine⟨u,m,by unfold wO; rw[r1,ah,m1]; rfl,?_⟩
 have:a*b=tj (!(s == t)) (vl r):=by
  rw[h.val,h'.val,r3]; unfold tj;cases s<;>cases t<;>simp[Int.neg_mul,Int.mul_neg]
 rw[this]; exact m2
theorem qt {a b:Nat} (ha:a<18446744073709551616) (h:b≤a):cA .u64 a b=a-b:=by
 show(a+(18446744073709551616-b%18446744073709551616))%18446744073709551616=a-b
 omega
theorem E4 (n0:Nat) {u y1 y0 d:Nat} (h1:2147483648≤y1) (h1':y1<4294967296) (h0:y0<4294967296) (hd:d<4294967296) {Q:Nat} (le_iff:∀p,p≤Q↔p*y1*4294967296+p*y0≤u*4294967296+d) (hQb:Q<4294967296) :
  ∀k r q m,4294967296≤r+k*2147483648→k<m→q*y1+r=u→Q≤q→q≤4294967297→r<4294967296→bV (fx n0 d y0 y1) m (r,q)=some Q:=by
 intro k
 induction k with
 | zero=>intro r q m hk _ _ _ _ hr; omega
 | succ k ih =>
  intro r q m hk hm hq hQ hqb hr;obtain⟨m,rfl⟩:∃m',m=m'+1:=⟨m-1,by omega⟩
  by_cases hT:4294967296≤q∨4294967296*r+d<q*y0
  ·have hlt:Q<q:=by
    rcases hT with hT|hT
    ·omega
    ·refine Nat.lt_of_not_le fun h=>?_;rw[le_iff] at h;omega
   obtain⟨p,rfl⟩:∃p,q=p+1:=⟨q-1,by omega⟩
   rw[Nat.add_mul,Nat.one_mul] at hq;have test:(br (decide (4294967296≤p+1)) (some true) (some (decide (uw .u64 ((uw .u64 (4294967296*r))+d)<uw .u64 ((p+1)*y0)))))=some true:=by
    by_cases hb:4294967296≤p+1
    ·rw[aV hb]
    ·have h2:(p+1)*y0≤4294967295*4294967295:=Nat.mul_le_mul (by omega) (by omega)
     rw[aO hb,qf (a:=4294967296*r) (by omega),qf (by omega),qf (by omega),decide_eq_true (by omega)]
   have sb:cA .u64 (p+1) 1=p:=qt (by omega) (by omega)
   by_cases hb:4294967296≤r+y1
   ·have st:fx n0 d y0 y1 (r,p+1)=some (.inr p):=by
     unfold fx
     dsimp only
     rw[test,ah,dI,qf (a:=r+y1) (by omega),aV hb,sb]
    rw[bH st];have h2:p*y0≤4294967296*4294967295:=Nat.mul_le_mul (by omega) (by omega)
    have h3:p≤Q:=by rw[le_iff]; omega
    rw[show p=Q by omega]
   ·have st:fx n0 d y0 y1 (r,p+1)=some (.inl (r+y1,p)):=by
     unfold fx
     dsimp only
     rw[test,ah,dI,qf (a:=r+y1) (by omega),aO hb,sb]
    rw[bm st];exact ih (r+y1) p m (by omega) (by omega) (by omega) (by omega) (by omega) (by omega)
  ·have hq2:q<4294967296:=by omega
   have h2:q*y0≤4294967295*4294967295:=Nat.mul_le_mul (by omega) (by omega)
   have st:fx n0 d y0 y1 (r,q)=some (.inr q):=by
    unfold fx
    dsimp only
    rw[aO (by omega),qf (a:=4294967296*r) (by omega),qf (by omega),qf (by omega),ah,aO (by omega)]
   rw[bH st];have h3:q≤Q:=by rw[le_iff]; omega
   rw[show q=Q by omega]
theorem DZ (n0 y s y1 y0 d e:Nat):∀m q r,bV (rj n0) m (y,s,y1,y0,d,e,q,r)=(bV (fx n0 d y0 y1) m (r,q)).map fun q=>(y,s,y1,y0,d,e,q):=by
 intro m
 induction m with
 | zero=>intro q r; rfl
 | succ m ih =>
  intro q r;have a:∀b,(br b (br (decide (4294967296≤uw .u64 (r+y1))) (some (.inr (y,s,y1,y0,d,e,cA .u64 q 1))) (some (.inl (y,s,y1,y0,d,e,cA .u64 q 1,uw .u64 (r+y1))))) (some (.inr (y,s,y1,y0,d,e,q))):Option ((Nat × Nat × Nat × Nat × Nat × Nat × Nat × Nat) ⊕ (Nat × Nat × Nat × Nat × Nat × Nat × Nat))) =
   (br b (br (decide (4294967296≤uw .u64 (r+y1))) (some (.inr (cA .u64 q 1))) (some (.inl (uw .u64 (r+y1),cA .u64 q 1)))) (some (.inr q)):Option ((Nat × Nat) ⊕ Nat)).map fun x=>match x with | .inl (r,q)=>.inl (y,s,y1,y0,d,e,q,r) | .inr q=>.inr (y,s,y1,y0,d,e,q):=by
   intro b;cases b
   ·rfl
   ·rw[dI,dI];cases decide (4294967296≤uw .u64 (r+y1))<;>rfl
  have st:rj n0 (y,s,y1,y0,d,e,q,r)=(fx n0 d y0 y1 (r,q)).map fun x=>match x with | .inl (r,q)=>.inl (y,s,y1,y0,d,e,q,r) | .inr q=>.inr (y,s,y1,y0,d,e,q):=by
   unfold rj fx
   dsimp only
   cases(br (decide (4294967296≤q)) (some true) (some (decide (uw .u64 ((uw .u64 (4294967296*r))+d)<uw .u64 (q*y0)))):Option Bool) with
   | none=>rfl
   | some b=>exact a b
  unfold bV;rw[st];cases fx n0 d y0 y1 (r,q) with
  | none=>rfl
  | some x =>
   cases x with
   | inl p=>exact ih p.2 p.1
   | inr p=>rfl
theorem tQ {a b:Nat} (h:b≤a) (hr:a-b<18446744073709551616):cA .u64 (uw .u64 a) (uw .u64 b)=a-b:=by
 show(a%18446744073709551616+(18446744073709551616-b%18446744073709551616%18446744073709551616))%18446744073709551616=a-b
 omega
theorem L7 {x:Nat} (h0:0<x):2 ^ (bl x-1)≤x∧x<2 ^ bl x∧0<bl x:=by
 have h1:0<bl x:=lh.2 (by simp; omega)
 refine⟨lh.1 (by omega),?_,h1⟩
 exact Nat.lt_of_not_le fun h=>Nat.lt_irrefl _ (lh.2 h)
theorem vy {a s:Nat} (h:s≤64):bY .u64 a s=uw .u64 (a*2 ^ s):=by
 have:min s (IntKind.bits .u64)=s:=Nat.min_eq_left h;unfold bY;rw[this]
theorem CY {a s:Nat} (h:s≤64):bL .u64 a s=a/2 ^ s:=by
 have:min s (IntKind.bits .u64)=s:=Nat.min_eq_left h;unfold bL;rw[this]
theorem DI {n:Nat} (hn:4<n) {u y1 y0 d:Nat} (h1:2147483648≤y1) (h1':y1<4294967296) (h0:y0<4294967296) (hd:d<4294967296) (hu:u<y1*4294967296+y0) :
  bV (fx n d y0 y1) n (cA .u64 u (uw .u64 (uw .u64 (u/y1)*y1)),uw .u64 (u/y1))=some ((u*4294967296+d)/(y1*4294967296+y0)):=by
 have e1:=Nat.div_add_mod u y1;have e2:=Nat.mod_lt u (show 0<y1 by omega)
 rw[Nat.mul_comm] at e1;have hq:u/y1≤4294967297:=by
  have:u/y1<4294967298:=by rw[Nat.div_lt_iff_lt_mul (by omega)]; omega
  omega
 rw[qf (a:=u/y1) (by omega),qf (a:=u/y1*y1) (by omega),qt (by omega) (by omega)]
 have hy:0<y1*4294967296+y0:=by omega
 refine E4 n h1 h1' h0 hd (fun p=>by rw[Nat.le_div_iff_mul_le hy,Nat.mul_add,←Nat.mul_assoc]) (by rw[Nat.div_lt_iff_lt_mul hy]; omega) 2 _ _ n (by omega) (by omega) (by omega) ?_ hq (by omega)
 have:(u*4294967296+d)/(y1*4294967296+y0)<u/y1+1:=by
  rw[Nat.div_lt_iff_lt_mul hy,Nat.add_mul,Nat.one_mul,Nat.mul_add,←Nat.mul_assoc];omega
 omega
theorem Je {U w v A B R1 R0 d1 d0:Nat} (hU:U=w*4294967296) (h6:4294967296*d1+d0=v) (h5:A*4294967296+R1*4294967296=(w+d1)*4294967296) (m3:B+R0=R1*4294967296+d0) :
  U+v=R0+(A*4294967296+B):=by
 omega
theorem PG (u:Nat):u*18446744073709551616=u*4294967296*4294967296:=by rw[Nat.mul_assoc]
theorem KS {n:Nat} (hn:4<n) {x1 x2 x3:Nat} (h4:x1<x3) (h1:x2<18446744073709551616) (h2:x3<18446744073709551616) :
  FZ n x1 x2 x3=some ((x1*18446744073709551616+x2)/x3,(x1*18446744073709551616+x2)%x3):=by
 unfold FZ;rw[aO (by omega),aO (by omega)]
 by_cases hz:x1=0
 ·subst hz;rw[aV rfl,cq (by omega),cq (by omega),qf (Nat.lt_of_le_of_lt (Nat.div_le_self _ _) h1)]
  simp
 ·rw[aO hz];obtain⟨l1,l2,l3⟩:=L7 (x:=x3) (by omega)
  have l4:bl x3≤64:=Ht h2;obtain⟨s,hs⟩:∃s,bl x3+s=64:=⟨64-bl x3,by omega⟩
  have r0:A2 n x3=some ((s:Nat):Int):=by
   unfold A2;rw[qk n x3 h2,ah,aK (by omega) (by omega)]
   congr 1
   omega
  have u0:ui .u64 ((s:Nat):Int)=s:=by
   show(((s:Nat):Int)%((2 ^ 64:Nat):Int)).toNat=s
   omega
  have P0:0<2 ^ s:=Nat.two_pow_pos s;have PP:2 ^ s*2 ^ (64-s)=18446744073709551616:=by rw[←Nat.pow_add,show s+(64-s)=64 by omega]
  have X1:x3*2 ^ s<18446744073709551616:=by
   have:x3*2 ^ s<2 ^ bl x3*2 ^ s:=Nat.mul_lt_mul_of_pos_right l2 P0;rw[←Nat.pow_add,hs] at this;exact this
  have X2:9223372036854775808≤x3*2 ^ s:=by
   have:2 ^ (bl x3-1)*2 ^ s≤x3*2 ^ s:=Nat.mul_le_mul_right _ l1;rw[←Nat.pow_add,show bl x3-1+s=63 by omega] at this
   exact this
  have X3:x1*2 ^ s<x3*2 ^ s:=Nat.mul_lt_mul_of_pos_right h4 P0;have s3:bY .u64 x3 s=x3*2 ^ s:=by
   rw[vy (by omega),qf X1]
  have s1:bY .u64 x1 s=x1*2 ^ s:=by
   rw[vy (by omega),qf (by omega)]
  have s2:bY .u64 x2 s=x2*2 ^ s%18446744073709551616:=by
   rw[vy (by omega)]; rfl
  have t0:bL .u64 x2 (cA .u64 64 s)=x2/2 ^ (64-s):=by
   rw[qt (by decide) (by omega)]
   rw[CY (by omega)]
  have t1:x2/2 ^ (64-s)<2 ^ s:=by rw[Nat.div_lt_iff_lt_mul (Nat.two_pow_pos _),PP]; exact h1
  have t2:x2*2 ^ s/18446744073709551616=x2/2 ^ (64-s):=by rw[←PP,Nat.mul_comm x2,Nat.mul_div_mul_left _ _ P0]
  have hor:uw .u64 (uw .u64 (x1*2 ^ s) ||| uw .u64 (x2/2 ^ (64-s)))=x1*2 ^ s+x2/2 ^ (64-s):=by
   have h0:x2/2 ^ (64-s)≤x2:=Nat.div_le_self _ _;rw[lY (show x1*2 ^ s<2 ^ 64 by omega) (show x2/2 ^ (64-s)<2 ^ 64 by omega),←Nat.shiftLeft_eq,Nat.shiftLeft_add_eq_or_of_lt t1]
  rw[r0,ah,u0,ah,s3,s1,t0,hor,s2];have key:(x1*2 ^ s+x2/2 ^ (64-s))*18446744073709551616+x2*2 ^ s%18446744073709551616=(x1*18446744073709551616+x2)*2 ^ s:=by
   have:=Nat.div_add_mod (x2*2 ^ s) 18446744073709551616;rw[t2] at this;rw[Nat.add_mul,Nat.add_mul,Nat.mul_right_comm x1];omega
  have hv:x2*2 ^ s%18446744073709551616<18446744073709551616:=Nat.mod_lt _ (by decide)
  have hu:x1*2 ^ s+x2/2 ^ (64-s)<x3*2 ^ s:=by
   have h0:(x1*18446744073709551616+x2)*2 ^ s<(x3*18446744073709551616)*2 ^ s:=Nat.mul_lt_mul_of_pos_right (by omega) P0
   rw[←key,Nat.mul_right_comm x3] at h0;omega
  have r1:(x1*18446744073709551616+x2)/x3=((x1*18446744073709551616+x2)*2 ^ s)/(x3*2 ^ s):=by rw[Nat.mul_div_mul_right _ _ P0]
  have r2:(x1*18446744073709551616+x2)%x3=(((x1*18446744073709551616+x2)*2 ^ s)%(x3*2 ^ s))/2 ^ s:=by rw[Nat.mul_mod_mul_right,Nat.mul_div_cancel _ P0]
  rw[r1,r2,←key];have hss:∀R,bL .u64 R s=R/2 ^ s:=fun R=>CY (by omega)
  clear PP t1 t2 hor key r1 r2 r0 u0 s1 s2 s3 t0 P0 X3 l1 l2 l3 l4 hs;generalize x1*2 ^ s+x2/2 ^ (64-s)=u at hu ⊢;generalize x2*2 ^ s%18446744073709551616=v at hv ⊢;generalize x3*2 ^ s=X at X1 X2 hu ⊢;have hX:X/4294967296*4294967296+X%4294967296=X:=Nat.div_add_mod' _ _;rw[cq (show 0<bL .u64 X 32 by rw[GK]; omega)]
  simp only[GK,yp X1,yp hv];rw[ah,DZ];rw[DI hn (u:=u) (y1:=X/4294967296) (y0:=X%4294967296) (d:=v/4294967296) (by omega) (by omega) (by omega) (by omega) (by omega),hX]
  have q0:(u*4294967296+v/4294967296)/X<4294967296:=by rw[Nat.div_lt_iff_lt_mul (by omega)]; omega
  have m1:=Nat.div_add_mod (u*4294967296+v/4294967296) X;have m2:=Nat.mod_lt (u*4294967296+v/4294967296) (show 0<X by omega)
  rw[Option.map_some,ah]
  dsimp only
  rw[ah,cq (by omega)]
  have e0:uw .u64 (uw .u64 (u*4294967296)+v/4294967296)=uw .u64 (u*4294967296+v/4294967296):=Nat.mod_add_mod _ _ _;rw[Nat.mul_comm X] at m1;rw[e0,tQ (by omega) (by omega)]
  have e1:u*4294967296+v/4294967296-(u*4294967296+v/4294967296)/X*X=(u*4294967296+v/4294967296)%X:=by omega
  rw[e1];obtain⟨Q1,hQ1⟩:∃Q,(u*4294967296+v/4294967296)/X=Q:=⟨_,rfl⟩;obtain⟨R1,hR1⟩:∃R,(u*4294967296+v/4294967296)%X=R:=⟨_,rfl⟩;clear e1;rw[hQ1] at q0 m1 ⊢;rw[hR1] at m1 m2 ⊢;rw[DI hn (u:=R1) (y1:=X/4294967296) (y0:=X%4294967296) (d:=v%4294967296) (by omega) (by omega) (by omega) (by omega) (by omega),hX,ah]
  have q1:(R1*4294967296+v%4294967296)/X<4294967296:=by rw[Nat.div_lt_iff_lt_mul (by omega)]; omega
  have m3:=Nat.div_add_mod (R1*4294967296+v%4294967296) X;have m4:=Nat.mod_lt (R1*4294967296+v%4294967296) (show 0<X by omega)
  rw[Nat.mul_comm X] at m3;have e2:uw .u64 (uw .u64 (R1*4294967296)+v%4294967296)=uw .u64 (R1*4294967296+v%4294967296):=Nat.mod_add_mod _ _ _;rw[e2,ah,tQ (by omega) (by omega)]
  have e3:R1*4294967296+v%4294967296-(R1*4294967296+v%4294967296)/X*X=(R1*4294967296+v%4294967296)%X:=by omega
  rw[e3,hss];obtain⟨Q0,hQ0⟩:∃Q,(R1*4294967296+v%4294967296)/X=Q:=⟨_,rfl⟩;obtain⟨R0,hR0⟩:∃R,(R1*4294967296+v%4294967296)%X=R:=⟨_,rfl⟩;clear e3;rw[hQ0] at q1 m3 ⊢;rw[hR0] at m3 m4 ⊢;rw[qf (a:=Q1*4294967296) (by omega),qf (by omega)]
  clear hQ1 hR1 hQ0 hR0 e0 e2 hss X1 X2 hX q1 q0 m2 hu h4 h1 h2 hz;have fin:u*18446744073709551616+v=R0+(Q1*4294967296+Q0)*X:=by
   have h0:Q1*X*4294967296+R1*4294967296=(u*4294967296+v/4294967296)*4294967296:=by rw[←m1,Nat.add_mul]
   rw[Nat.add_mul,Nat.mul_right_comm Q1];have h3:=Nat.div_add_mod v 4294967296;generalize v/4294967296=d0 at h0 h3;generalize v%4294967296=d1 at m3 h3;generalize Q1*X=A at h0 ⊢;generalize Q0*X=B at m3 ⊢;exact Je (PG u) h3 h0 m3
  rw[fin,Nat.add_mul_div_right _ _ (show 0<X by omega),Nat.add_mul_mod_self_right,Nat.div_eq_of_lt m4,Nat.mod_eq_of_lt m4,Nat.zero_add]
theorem HM {q:List Nat} {i e d:Nat}:(List.replicate i 0++e::q).set i d=List.replicate i 0++d::q:=by
 rw[List.set_append_right _ _ (by simp)]
 simp
theorem Gi (i:Nat) (q:List Nat):List.replicate (i+1) 0++q=List.replicate i 0++0::q:=by
 rw[List.replicate_succ',List.append_assoc]; rfl
theorem th {n:Nat} {l:List Nat} {d:Nat} (hl:Wd l) (hd:d<18446744073709551616) (h0:d≠0) (hb:l.length<1000000) (hn:l.length<n) (hn4:4<n) :
  ∃q t m,yw n l [d]=some (q,m)∧Wd q∧vl q=vl l/d∧q.length=l.length∧Lg ((vl l%d:Nat):Int) t m∧t=false:=by
 have hL:∀i q r m,i+q.length=l.length→i<m→Wd q→r<d→vl l=vl (l.take i)+wp i*(d*vl q+r) →
   ∃q' r',bV (oZ n l [d]) m (List.replicate i 0++q,r,(i:Int)-1)=some (q',r')∧Wd q'∧q'.length=l.length∧r'<d∧vl l=d*vl q'+r':=by
  intro i
  induction i with
  | zero =>
   intro q r m hi hm hq hr hv;obtain⟨m,rfl⟩:∃m',m=m'+1:=⟨m-1,by omega⟩
   refine⟨q,r,bH ?_,hq,by omega,hr,?_⟩
   ·unfold oZ
    dsimp only
    rw[aO (by decide)]; rfl
   ·rw[hv]; simp[vl,wp]
  | succ i ih =>
   intro q r m hi hm hq hr hv;obtain⟨m,rfl⟩:∃m',m=m'+1:=⟨m-1,by omega⟩
   have hi':i<l.length:=by omega
   obtain⟨x,e2⟩:∃x,l[i]? = some x:=⟨l[i],by simp⟩
   have hx:=hl.at e2;have e0:((i+1:Nat):Int)-1=((i:Nat):Int):=by omega
   have ht:vl (l.take (i+1))=vl (l.take i)+wp i*x:=by
    rw[List.take_add_one,e2,Option.toList_some,qQ,List.length_take,Nat.min_eq_left (Nat.le_of_lt hi')]
   have e3:(List.replicate (i+1) 0++q)[i]? = some 0:=by rw[List.getElem?_append_left (by simp),List.getElem?_replicate]; simp
   have hqd:(r*18446744073709551616+x)/d<18446744073709551616:=by
    rw[Nat.div_lt_iff_lt_mul (by omega),Nat.mul_comm _ d]
    have:(r+1)*18446744073709551616≤d*18446744073709551616:=Nat.mul_le_mul_right _ hr;omega
   have st:oZ n l [d] (List.replicate (i+1) 0++q,r,((i:Nat):Int))=some (.inl (List.replicate i 0++(r*18446744073709551616+x)/d::q,(r*18446744073709551616+x)%d,(i:Int)-1)):=by
    unfold oZ
    dsimp only
    rw[aV (by omega),aD hi',aS,Int.toNat_natCast,e2,ah]
    rw[show cg 0 [d].length=true from rfl,aS,show([d]:List Nat)[(0:Int).toNat]? = some d from rfl,ah,KS hn4 hr hx hd,ah]
    dsimp only
    rw[Int.toNat_natCast,aD hi',aS,e3,ah,Gi,HM,aK (by omega) (by omega)]
   rw[e0,bm st];refine ih _ _ m (by rw[List.length_cons]; omega) (by omega) (fun e he=>?_) (Nat.mod_lt _ (by omega)) ?_
   ·rcases List.mem_cons.1 he with rfl|h
    ·exact hqd
    ·exact hq e h
   ·have h1:=Nat.div_add_mod (r*18446744073709551616+x) d;rw[hv,ht,gW,er];generalize (r*18446744073709551616+x)%d=R at h1 ⊢;generalize (r*18446744073709551616+x)/d=Q at h1 ⊢;have h2:wp i*(d*Q+R)=wp i*(r*18446744073709551616+x):=by rw[h1]
    rw[Nat.mul_comm r] at h2;simp only[Nat.mul_add,Nat.mul_left_comm (wp i) 18446744073709551616,Nat.mul_left_comm d 18446744073709551616,Nat.mul_assoc] at h2 ⊢;omega
 obtain⟨q,r,q1,q2,q3,q4,q5⟩:=hL l.length [] 0 n (by simp) hn Wd.nil (by omega) (by rw[List.take_length,gJ]; simp)
 rw[List.append_nil] at q1;obtain⟨t,m,m1,m2⟩:=eS (n:=n) false (Wd.one (show r<18446744073709551616 by omega)) (by simp) (by simp; omega)
 have hr:vl [r]=r:=by simp[vl]
 rw[hr] at m2;have dq:vl q=vl l/d:=by
  rw[q5,Nat.mul_add_div (by omega),Nat.div_eq_of_lt q4]; rfl
 have dr:r=vl l%d:=by
  rw[q5,Nat.mul_add_mod,Nat.mod_eq_of_lt q4]
 refine⟨q,t,m,?_,q2,dq,q3,by rw[←dr]; exact m2,?_⟩
 ·unfold yw;rw[cq (by omega),Int.toNat_natCast,fR (by omega),aS,aV (show(([d]:List Nat).length:Int)=1 from rfl),aK (by omega) (by omega),q1,ah]
  dsimp only
  rw[m1]; rfl
 ·have:=m2.vC;rw[this];simp[tj]
theorem xw {n:Nat} {a b:Int} {s t:Bool} {l k:List Nat} (h:Lg (a*b) s l) (h':Lg b t k) (h0:b≠0) (hbb:b.natAbs<18446744073709551616) (hb:l.length<1000000) (hn:l.length<n) (hn4:4<n) :
  ∃u m v o,wh n s l t k=some (u,m,v,o)∧Lg a u m:=by
 have hk:=h'.Pk h0 hbb;subst hk;obtain⟨q,t',m,q1,q2,q3,q4,q5,q6⟩:=th (n:=n) h.wd hbb (by omega) hb hn hn4
 obtain⟨u,m',u1,u2⟩:=eS (n:=n) (!(s == t)) q2 (by omega) (by omega)
 have hz:(vl l%b.natAbs:Nat)=0:=by rw[h.abs,Int.natAbs_mul,Nat.mul_mod_left]
 rw[hz] at q5;obtain⟨rfl,rfl⟩:=q5.inj Lg.zero;obtain⟨v,o,v1,v2⟩:=eS (n:=n) s Wd.nil (by simp) (by simp; omega)
 have v3:Lg 0 v o:=by rw[gJ,nV] at v2; exact v2
 obtain⟨rfl,rfl⟩:=v3.inj Lg.zero;refine⟨u,m',false,[],?_,?_⟩
 ·unfold wh;rw[q1,ah]
  dsimp only
  rw[u1,ah]
  dsimp only
  rw[v1,ah]
  rfl
 ·have e1:vl q=a.natAbs:=by rw[q3,h.abs,Int.natAbs_mul,Nat.mul_div_cancel _ (by omega)]
  have hs:=h.vC;have ht:=h'.vC;have:a=tj (!(s == t)) (vl q)∨(a=0):=by
   by_cases ha:a=0
   ·exact .inr ha
   ·refine .inl ?_;rw[e1,hs,ht];unfold tj
    by_cases hb0:b<0<;>by_cases ha0:a<0
    ·have:¬a*b<0:=Int.not_lt.2 (Int.mul_nonneg_of_nonpos_of_nonpos (by omega) (by omega))
     simp[hb0,this]; omega
    ·have:a*b<0:=Int.mul_neg_of_pos_of_neg (by omega) hb0
     simp[hb0,this]; omega
    ·have:a*b<0:=Int.mul_neg_of_neg_of_pos ha0 (by omega)
     simp[hb0,this]; omega
    ·have:¬a*b<0:=Int.not_lt.2 (Int.mul_nonneg (by omega) (by omega))
     simp[hb0,this]; omega
  rcases this with e|e
  ·rw[e]; exact u2
  ·rw[e,Int.natAbs_zero] at e1;rw[e1,nV] at u2;rw[e]; exact u2
theorem OE (m:Nat):uK (m+20) 0=some (false,[]):=by rfl
theorem Pj (m:Nat):uK (m+20) 1=some (false,[1]):=by rfl
theorem PT (m:Nat):uK (m+20) (-1)=some (true,[1]):=by rfl
theorem rv {n:Nat} (h:20≤n):uK n 0=some (false,[]):=by obtain⟨m,rfl⟩:∃m,n=m+20:=⟨n-20,by omega⟩; exact OE m
theorem nE {n:Nat} (h:20≤n):uK n 1=some (false,[1]):=by obtain⟨m,rfl⟩:∃m,n=m+20:=⟨n-20,by omega⟩; exact Pj m
theorem Ch {n:Nat} (h:20≤n):uK n (-1)=some (true,[1]):=by obtain⟨m,rfl⟩:∃m,n=m+20:=⟨n-20,by omega⟩; exact PT m
theorem np:Lg 1 false [1]:=Lg.small (by decide) (by decide) false
theorem FY:Lg (-1) true [1]:=Lg.small (by decide) (by decide) true
end Go.Proofs.YtookeaakpiefjaaGreatDoor
end

section
namespace Go.Proofs.YtookeaakpiefjaaGreatDoor
open Go Go.Ab Go.Ab.W Go.Ab.T30
def uS (s:Nat) (L:List (List (Bool × List Nat))) (M:Mt):Prop :=
 L.length=s∧∀r,r<s→∃row,L[r]? = some row∧row.length=s∧∀c,c<s→∃t k,row[c]? = some (t,k)∧Lg (M r c) t k
section
variable {s : Nat} {L : List (List (Bool × List Nat))} {M M' : Mt}
theorem uS.congr (h:uS s L M) (he:∀r c,r<s→c<s→M r c=M' r c):uS s L M' :=
 ⟨h.1,fun r hr=>by
  obtain⟨row,h1,h2,h3⟩:=h.2 r hr;exact⟨row,h1,h2,fun c hc=>by rw[←he r c hr hc]; exact h3 c hc⟩⟩
theorem uS.at (h:uS s L M) {r c:Nat} (hr:r<s) (hc:c<s):∃row t k,L[r]? = some row∧row.length=s∧row[c]? = some (t,k)∧Lg (M r c) t k:=by
 obtain⟨row,h1,h2,h3⟩:=h.2 r hr;obtain⟨t,k,h4,h5⟩:=h3 c hc;exact⟨row,t,k,h1,h2,h4,h5⟩
theorem uS.set (h:uS s L M) {i j:Nat} {row:List (Bool × List Nat)} {t:Bool} {k:List Nat} {x:Int} (hi:i<s) (hj:j<s) (hrow:L[i]? = some row) (hx:Lg x t k) :
  uS s (L.set i (row.set j (t,k))) fun r c=>if r=i∧c=j then x else M r c:=by
 refine⟨by rw[List.length_set]; exact h.1,fun r hr=>?_⟩
 by_cases hri:r=i
 ·subst hri;obtain⟨row',h1,h2,h3⟩:=h.2 r hr;rw[hrow] at h1;cases h1;refine⟨_,by rw[List.getElem?_set_self (by rw[h.1]; exact hr)],by rw[List.length_set]; exact h2,fun c hc=>?_⟩
  by_cases hcj:c=j
  ·subst hcj;exact⟨t,k,by rw[List.getElem?_set_self (by rw[h2]; exact hc)],by dsimp only; rw[if_pos ⟨rfl,rfl⟩]; exact hx⟩
  ·dsimp only
   rw[List.getElem?_set_ne (fun e=>hcj e.symm),if_neg (fun e:r=r∧c=j=>hcj e.2)];exact h3 c hc
 ·obtain⟨row',h1,h2,h3⟩:=h.2 r hr;refine⟨row',by rw[List.getElem?_set_ne (fun e=>hri e.symm)]; exact h1,h2,fun c hc=>?_⟩
  dsimp only
  rw[if_neg (fun e:r=i∧c=j=>hri e.1)];exact h3 c hc
end
theorem Fk {a b:Nat} (h:a<b):Nat.blt a b=true:=Nat.ble_eq_true_of_le h
def QV (s k:Nat) (M:Mt):Prop:=∀r c,k≤r→r<s→k≤c→c<s→(M r c).natAbs<wp 15
theorem lX {a b:Int} {j k:Nat} (ha:a.natAbs<wp j) (hb:b.natAbs<wp k):(a*b).natAbs<wp (j+k):=by
 rw[Int.natAbs_mul,Iw];have h1:a.natAbs*b.natAbs≤a.natAbs*wp k:=Nat.mul_le_mul_left _ (Nat.le_of_lt hb);have h2:a.natAbs*wp k<wp j*wp k:=Nat.mul_lt_mul_of_pos_right ha (xm k);omega
theorem Fo {n:Nat} (hn:100<n) {s k r:Nat} {A M:Mt} {p:Int} (hB:Bar A s k M p) (hk:k<s) (hr:k<r) (hrs:r<s) (hs:s≤64) (h0:M k k≠0) (hp:p.natAbs<18446744073709551616) (hb:QV s k M)
  {tf:Bool} {kf:List Nat} (hf:Lg (M r k) tf kf) {tp:Bool} {kp:List Nat} (hP:Lg p tp kp) {N:Mt} (hN:∀b,N k b=M k b) :
  ∀j c m L,c+j=s→j<m→k≤c→uS s L (fun a b=>if a=r then(if k≤b∧b<c then DT M k p a b else M a b) else N a b) →
   ∃L',bV (qW n s (r:Int) (k:Int) tf kf tp kp) m (L,(c:Int))=some L'∧uS s L' (fun a b=>if a=r then(if k≤b∧b<s then DT M k p a b else M a b) else N a b):=by
 intro j
 induction j with
 | zero =>
  intro c m L hj hm hkc hL;obtain⟨m,rfl⟩:∃m',m=m'+1:=⟨m-1,by omega⟩
  have hc:c=s:=by omega
  subst hc;refine⟨L,bH ?_,hL⟩;unfold qW
  dsimp only
  rw[aO (by omega)]
 | succ j ih =>
  intro c m L hj hm hkc hL;obtain⟨m,rfl⟩:∃m',m=m'+1:=⟨m-1,by omega⟩
  have hc:c<s:=by omega
  obtain⟨row,t1,k1,a1,a2,a3,a4⟩:=hL.at hrs hc;obtain⟨rowk,t2,k2,b1,b2,b3,b4⟩:=hL.at hk hk;obtain⟨rowk',t3,k3,c1,c2,c3,c4⟩:=hL.at hk hc;rw[b1] at c1;cases c1;rw[if_pos rfl,if_neg (by omega)] at a4
  rw[if_neg (by omega),hN] at b4 c4
  have l1:=a4.len (hb r c (by omega) hrs hkc hc)
  have l2:=b4.len (hb k k (by omega) hk (by omega) hk)
  have l3:=c4.len (hb k c (by omega) hk hkc hc)
  have lf:=hf.len (hb r k (by omega) hrs (by omega) hk)
  obtain⟨u1,v1,d1,d2⟩:=ou (n:=n) a4 b4 (by omega) (by omega) (by omega)
  obtain⟨u2,v2,e1,e2⟩:=ou (n:=n) hf c4 (by omega) (by omega) (by omega)
  have l4:=d2.len (lX (hb r c (by omega) hrs hkc hc) (hb k k (by omega) hk (by omega) hk))
  have l5:=e2.len (lX (hb r k (by omega) hrs (by omega) hk) (hb k c (by omega) hk hkc hc))
  obtain⟨u3,v3,f1,f2⟩:=Fj (n:=n) d2 e2 (by omega) (by omega) (by omega)
  have l6:v3.length≤31:=f2.len (by
   have h1:=lX (hb r c (by omega) hrs hkc hc) (hb k k (by omega) hk (by omega) hk)
   have h2:=lX (hb r k (by omega) hrs (by omega) hk) (hb k c (by omega) hk hkc hc)
   rw[gW];simp only[Nat.reduceAdd] at h1 h2;omega)
  have hex:=hB.exact hk h0 hr hrs hkc hc;rw[hex,Int.mul_comm] at f2;obtain⟨u4,v4,w4,o4,g1,g2⟩:=xw (n:=n) f2 hP hB.p0 hp (by omega) (by omega) (by omega)
  have st:qW n s (r:Int) (k:Int) tf kf tp kp (L,(c:Int))=some (.inl (L.set r (row.set c (u4,v4)),((c+1:Nat):Int))):=by
   unfold qW
   dsimp only
   simp only[Int.toNat_natCast];rw[aV (by omega),aD hrs,aS,a1,ah,cq (by omega),a2,aD hc,aS,a3,ah]
   dsimp only
   rw[aD hk,aS,b1,ah,cq (by omega),b2,aD hk,aS,b3,ah]
   dsimp only
   rw[d1,ah]
   dsimp only
   rw[aS,ah,cq (by omega),b2,aD hc,aS,c3,ah]
   dsimp only
   rw[e1,ah]
   dsimp only
   rw[f1,ah]
   dsimp only
   rw[aS,ah,cq (by omega),g1,ah]
   dsimp only
   rw[a2,aD hc,aS,Fk hc,aS,bt (by omega)]
  rw[bm st];refine ih (c+1) m _ (by omega) (by omega) (by omega) ((hL.set hrs hc a1 g2).congr fun a b ha hb'=>?_)
  by_cases h1:a=r∧b=c
  ·rw[if_pos h1,if_pos h1.1,if_pos ⟨by omega,by omega⟩,h1.1,h1.2]
  ·rw[if_neg h1]
   by_cases h3:a=r
   ·rw[if_pos h3,if_pos h3]
    by_cases h2:k≤b∧b<c
    ·rw[if_pos h2,if_pos ⟨h2.1,by omega⟩]
    ·rw[if_neg h2,if_neg (by omega)]
   ·rw[if_neg h3,if_neg h3]
theorem Ek {n:Nat} (hn:100<n) {s k:Nat} {A M:Mt} {p:Int} (hB:Bar A s k M p) (hk:k<s) (hs:s≤64) (h0:M k k≠0) (hp:p.natAbs<18446744073709551616) (hb:QV s k M)
  {tp:Bool} {kp:List Nat} (hP:Lg p tp kp) :
  ∀j r m L,r+j=s→j<m→k<r→uS s L (fun a b=>if k<a∧a<r∧k≤b then DT M k p a b else M a b) →
   ∃L',bV (px n s (k:Int) tp kp) m (L,(r:Int))=some L'∧uS s L' (DT M k p):=by
 intro j
 induction j with
 | zero =>
  intro r m L hj hm hkr hL;obtain⟨m,rfl⟩:∃m',m=m'+1:=⟨m-1,by omega⟩
  have hr:r=s:=by omega
  subst hr;refine⟨L,bH ?_,hL.congr fun a b ha hb'=>?_⟩
  ·unfold px
   dsimp only
   rw[aO (by omega)]
  ·by_cases h1:k<a∧k≤b
   ·rw[if_pos ⟨h1.1,ha,h1.2⟩]
   ·rw[if_neg (by omega)]; unfold DT; rw[if_neg h1]
 | succ j ih =>
  intro r m L hj hm hkr hL;obtain⟨m,rfl⟩:∃m',m=m'+1:=⟨m-1,by omega⟩
  have hr:r<s:=by omega
  obtain⟨row,t1,k1,a1,a2,a3,a4⟩:=hL.at hr hk;rw[if_neg (by omega)] at a4
  have hL9:∃L',bV (qW n s (r:Int) (k:Int) t1 k1 tp kp) n (L,(k:Int))=some L'∧uS s L' (fun a b=>if k<a∧a<r+1∧k≤b then DT M k p a b else M a b):=by
   obtain⟨L',c1,c2⟩:=Fo hn hB hk hkr hr hs h0 hp hb a4 hP (N:=fun a b=>if k<a∧a<r∧k≤b then DT M k p a b else M a b) (fun b=>by rw[if_neg (by omega)]) (s-k) k n L (by omega) (by omega) (Nat.le_refl _) (hL.congr fun a b ha hb'=>by
    by_cases h3:a=r
    ·rw[if_neg (by omega),if_pos h3,if_neg (by omega)]
    ·rw[if_neg (c:=a=r) h3])
   refine⟨L',c1,c2.congr fun a b ha hb'=>?_⟩
   by_cases h3:a=r
   ·rw[if_pos h3]
    by_cases h4:k≤b
    ·rw[if_pos ⟨h4,hb'⟩,if_pos ⟨by omega,by omega,h4⟩]
    ·rw[if_neg (by omega),if_neg (by omega)]
   ·rw[if_neg h3]
    by_cases h4:k<a∧a<r∧k≤b
    ·rw[if_pos h4,if_pos ⟨h4.1,by omega,h4.2.2⟩]
    ·rw[if_neg h4,if_neg (by omega)]
  obtain⟨L',b1,b2⟩:=hL9;have st:px n s (k:Int) tp kp (L,(r:Int))=some (.inl (L',((r+1:Nat):Int))):=by
   unfold px
   dsimp only
   simp only[Int.toNat_natCast];rw[aV (by omega),aD hr,aS,a1,ah,cq (by omega),a2,aD hk,aS,a3,ah]
   dsimp only
   rw[b1,ah,bt (by omega)]
  rw[bm st];exact ih (r+1) m _ (by omega) (by omega) (by omega) b2
theorem Eb {n:Nat} (hn:100<n) {s:Nat} {A:Mt} (hs:s≤64) (hD:∀k r c,k<s→r<s→c<s→(cK (k+1) (kK A k r c)).natAbs<wp 15) (hP:∀k,k<s→(cK k A).natAbs<18446744073709551616) :
  ∀j k m L M p tp kp,j+k=s→j<m→uS s L M→Bar A s k M p→Lg p tp kp →
   ∃t q,(bV (jm n s) m (L,tp,kp,(k:Int))=some (.inl (t,q))∨bV (jm n s) m (L,tp,kp,(k:Int))=some (.inr (t,q)))∧Lg (Lj j k M p) t q:=by
 intro j
 induction j with
 | zero =>
  intro k m L M p tp kp hj hm hL hB hp;obtain⟨m,rfl⟩:∃m',m=m'+1:=⟨m-1,by omega⟩
  refine⟨tp,kp,.inr (bH ?_),hp⟩;unfold jm
  dsimp only
  rw[aO (by omega)]
 | succ j ih =>
  intro k m L M p tp kp hj hm hL hB hp;obtain⟨m,rfl⟩:∃m',m=m'+1:=⟨m-1,by omega⟩
  have hk:k<s:=by omega
  obtain⟨row,t1,k1,a1,a2,a3,a4⟩:=hL.at hk hk;obtain⟨r,r1,r2,r3⟩:=vH (n:=n) a4;have hb:QV s k M:=fun r c h1 h2 h3 h4=>by rw[hB.minor h1 h2 h3 h4]; exact hD k r c hk h2 h4
  unfold Lj
  by_cases h0:M k k=0
  ·rw[if_pos h0];refine⟨false,[],.inl (bH ?_),Lg.zero⟩;unfold jm
   dsimp only
   simp only[Int.toNat_natCast];rw[aV (by omega),aD hk,aS,a1,ah,cq (by omega),a2,aD hk,aS,a3,ah]
   dsimp only
   rw[r1,ah,aV (r3.2 h0),rv (by omega),ah]
  ·rw[if_neg h0];obtain⟨L',b1,b2⟩:=Ek hn hB hk hs h0 (by rw[hB.pe]; exact hP k hk) hb hp (s-(k+1)) (k+1) n L (by omega) (by omega) (by omega) (hL.congr fun a b _ _=>by rw[if_neg (by omega)])
   obtain⟨row',t2,k2,c1,c2,c3,c4⟩:=b2.at hk hk;have he:DT M k p k k=M k k:=by unfold DT; rw[if_neg (by omega)]
   rw[he] at c4;have st:jm n s (L,tp,kp,(k:Int))=some (.inl (L',t2,k2,((k+1:Nat):Int))):=by
    unfold jm
    dsimp only
    simp only[Int.toNat_natCast];rw[aV (by omega),aD hk,aS,a1,ah,cq (by omega),a2,aD hk,aS,a3,ah]
    dsimp only
    rw[r1,ah,aO (fun e=>h0 (r3.1 e)),bt (by omega),b1,ah,aS,c1,ah,cq (by omega),c2,aD hk,aS,c3,ah]
   rw[bm st];exact ih (k+1) m L' _ _ t2 k2 (by omega) (by omega) b2 (hB.step hk h0) c4
end Go.Proofs.YtookeaakpiefjaaGreatDoor
end

section
namespace Go.Proofs.YtookeaakpiefjaaGreatDoor
open Go Go.Ab Go.Ab.W
theorem uJ {α β:Type} [DecidableEq α] (xs:List (α × β)) (k k':α) (v:β):aP (bR xs k v) k'=(if k'=k then some v else aP xs k')∧(bR xs k v).length=(if aP xs k=none then xs.length+1 else xs.length):=by
 have key:∀(xs:List (α × β)) (i:Nat),(cz k xs i=none→∀j,(cz k' (xs++[(k,v)]) j).map (·.2)=if k'=k then some v else(cz k' xs j).map (·.2)) ∧
   (∀p,cz k xs i=some p→i≤p.1∧∀j,(cz k' (xs.set (p.1-i) (k,v)) j).map (·.2)=if k'=k then some v else(cz k' xs j).map (·.2)):=by
  intro xs
  induction xs with
  | nil =>
   intro i;refine⟨fun _ j=>?_,fun p h=>by simp[cz] at h⟩
   simp only[List.nil_append,cz]
   by_cases h:k'=k<;>simp[h]
  | cons e xs ih =>
   intro i
   by_cases he:k=e.1
   ·refine⟨fun h=>by simp[cz,he] at h,fun p h=>?_⟩
    have hp:p=(i,e.2):=by simp[cz,he] at h; exact h.symm
    subst hp;refine⟨Nat.le_refl _,fun j=>?_⟩;simp only[Nat.sub_self,List.set_cons_zero,cz]
    by_cases h:k'=k
    ·simp[h]
    ·have:k'≠e.1:=fun c=>h (c.trans he.symm);simp[h,this]
   ·refine⟨fun h j=>?_,fun p h=>?_⟩
    ·have h':cz k xs (i+1)=none:=by simpa [cz,he] using h
     simp only[List.cons_append,cz]
     by_cases h2:k'=e.1
     ·have:k'≠k:=fun c=>he (c.symm.trans h2);simp[h2,Ne.symm he]
     ·simp only[if_neg h2];exact(ih (i+1)).1 h' (j+1)
    ·have h':cz k xs (i+1)=some p:=by simpa [cz,he] using h
     obtain⟨g1,g2⟩:=(ih (i+1)).2 p h';refine⟨by omega,fun j=>?_⟩
     rw[show p.1-i=(p.1-(i+1))+1 by omega,List.set_cons_succ]
     simp only[cz]
     by_cases h2:k'=e.1
     ·have:k'≠k:=fun c=>he (c.symm.trans h2);simp[h2,Ne.symm he]
     ·simp only[if_neg h2];exact g2 (j+1)
 unfold aP bR;cases h:cz k xs 0 with
 | none=>exact⟨(key xs 0).1 h 0,by simp⟩
 | some p=>exact⟨((key xs 0).2 p h).2 0,by simp⟩
theorem lN {α β:Type} [DecidableEq α] (xs:List (α × β)) (k k':α) (v:β):aP (bR xs k v) k'=if k'=k then some v else aP xs k':=(uJ xs k k' v).1
theorem zD {α β:Type} [DecidableEq α] (xs:List (α × β)) (k:α) (v:β) (h:aP xs k=none):(bR xs k v).length=xs.length+1:=by rw[(uJ xs k k v).2,if_pos h]
theorem fm {α β:Type} [DecidableEq α] (xs:List (α × β)) (k k':α) (v d:β):(aP (bR xs k v) k').getD d=if k'=k then v else(aP xs k').getD d:=by
 rw[lN]; split<;>rfl
end Go.Proofs.YtookeaakpiefjaaGreatDoor
end

section
namespace Go.Proofs.YtookeaakpiefjaaGreatDoor
open Go Go.Ab Go.Ab.W Go.Ab.T30
def wi (es:List (Int × Int)) (x:Nat) (W:List (Int × Bool)) (i:Nat):Bool:=eG es x (i:Int) && (aP W (i:Int)).getD false
def wl (es:List (Int × Int)) (x:Nat) (W:List (Int × Bool)) (i j:Nat):List (Nat × Nat):=((List.range' i j).filter (wi es x W)).map fun(k:Nat)=>eg es (k:Int)
theorem JS (es:List (Int × Int)) (x:Nat) (W:List (Int × Bool)) (i j:Nat):wl es x W i (j+1)=if wi es x W i then eg es (i:Int)::wl es x W (i+1) j else wl es x W (i+1) j:=by
 unfold wl;rw[List.range'_succ,List.filter_cons]
 split<;>rfl
theorem Gg {N:Nat} {es:List (Int × Int)} (h:Okay N es) {n x:Nat} (hx:x<2 ^ 64) (hn:64<n) (W:List (Int × Bool)) :
  ∀j i m p r E,i+j=es.length→j<m→Fst p r→Rt r E →
   (bX r (wl es x W i j)=true→∃p' E',bV (kP n es x W) m ((i:Int),p,p.length)=some (.inr (p',p'.length))∧Fst p' ((wl es x W i j).foldl bh r)∧Rt ((wl es x W i j).foldl bh r) E') ∧
   (bX r (wl es x W i j)=false→∃p' k,bV (kP n es x W) m ((i:Int),p,p.length)=some (.inl (false,[],p',k))):=by
 intro j
 induction j with
 | zero =>
  intro i m p r E hij hm hp hr;obtain⟨m,rfl⟩:∃m',m=m'+1:=⟨m-1,by omega⟩
  have h0:wl es x W i 0 = []:=rfl;rw[h0];refine⟨fun _=>⟨p,E,bH ?_,hp,hr⟩,fun h=>by cases h⟩
  unfold kP
  dsimp only
  rw[aO (by omega)]
 | succ j ih =>
  intro i m p r E hij hm hp hr;obtain⟨m,rfl⟩:∃m',m=m'+1:=⟨m-1,by omega⟩
  have hi:i<es.length:=by omega
  have hl:=h.len;obtain⟨a,b,g1,g2,g3,g4,_,g5⟩:=jr h (k:=(i:Int)) ⟨by omega,by omega⟩
  rw[Int.toNat_natCast] at g1;have ha:a<64:=by omega
  have hin:eG es x (i:Int)=(x.testBit a && x.testBit b):=by
   simp only[eG,g2];rw[decide_eq_true ⟨by omega,by omega⟩,Bool.true_and]
  have w1:IntKind.wrap .i64 ((i:Int)+1)=((i+1:Nat):Int):=bt (by omega)
  rw[JS,g2]
  by_cases h3:(x.testBit a && x.testBit b)=true
  ·by_cases h4:(aP W (i:Int)).getD false=true
   ·have hw:wi es x W i=true:=by unfold wi; rw[hin,h3,h4]; rfl
    rw[if_pos hw];have hM:max (r a) (r b)<p.length:=by rw[hp.len]; have:=hr.le a; have:=hr.le b; omega
    have hma:ma ((r a:Nat):Int) ((r b:Nat):Int)=((max (r a) (r b):Nat):Int):=by simp only[ma]; omega
    have hmi:mi ((r a:Nat):Int) ((r b:Nat):Int)=((min (r a) (r b):Nat):Int):=by simp only[mi]; omega
    have hpM:p[max (r a) (r b)]? = some (p[max (r a) (r b)]'hM):=List.getElem?_eq_getElem _;have key:kP n es x W ((i:Int),p,p.length)=if r a=r b then some (.inr (.inl (false,[],p.set (max (r a) (r b)) ((min (r a) (r b):Nat):Int),p.length))) else some (.inl (((i+1:Nat):Int),p.set (max (r a) (r b)) ((min (r a) (r b):Nat):Int),p.length)):=by
     unfold kP
     dsimp only
     rw[aV (by omega),aD hi,aS,Int.toNat_natCast,g1,ah]
     dsimp only
     rw[rV n x a b hx ha g4,ah,h3,dI,ah,h4,dI,C5 hp n a ha hn,ah,C5 hp n b g4 hn,ah,hma,aD hM,aS,Int.toNat_natCast,hpM,ah,ah,hmi]
     dsimp only
     rw[ah]
     dsimp only
     rw[w1]
     by_cases h5:r a=r b
     ·rw[if_pos h5,decide_eq_true (by omega),rv (by omega)]; rfl
     ·rw[if_neg h5,decide_eq_false (by omega)]; rfl
    unfold bX
    by_cases h5:r a=r b
    ·rw[if_pos h5] at key
     dsimp only
     have:(r a == r b)=true:=by simpa using h5
     rw[this];exact⟨fun h=>(by cases h),fun _=>⟨_,_,bH key⟩⟩
    ·rw[if_neg h5] at key
     dsimp only
     have:(r a == r b)=false:=by simpa using h5
     rw[this,Bool.not_false,Bool.true_and,bm key,List.foldl_cons];have hj:=hp.join hr (e:=(a,b)) ha g4;have:=ih (i+1) m _ _ _ (by omega) (by omega) hj (hr.join (a,b))
     rw[List.length_set] at this;exact this
   ·rw[Bool.not_eq_true] at h4;have hw:wi es x W i=false:=by unfold wi; rw[h4,Bool.and_false]
    rw[hw];have key:kP n es x W ((i:Int),p,p.length)=some (.inl (((i+1:Nat):Int),p,p.length)):=by
     unfold kP
     dsimp only
     rw[aV (by omega),aD hi,aS,Int.toNat_natCast,g1,ah]
     dsimp only
     rw[rV n x a b hx ha g4,ah,h3,dI,ah,h4,dt,ah]
     dsimp only
     rw[dt,ah]
     dsimp only
     rw[ah]
     dsimp only
     rw[w1]
    rw[bm key];exact ih (i+1) m p r E (by omega) (by omega) hp hr
  ·rw[Bool.not_eq_true] at h3;have hw:wi es x W i=false:=by unfold wi; rw[hin,h3]; rfl
   rw[hw];have key:kP n es x W ((i:Int),p,p.length)=some (.inl (((i+1:Nat):Int),p,p.length)):=by
    unfold kP
    dsimp only
    rw[aV (by omega),aD hi,aS,Int.toNat_natCast,g1,ah]
    dsimp only
    rw[rV n x a b hx ha g4,ah,h3,dt,ah]
    dsimp only
    rw[w1]
   rw[bm key];exact ih (i+1) m p r E (by omega) (by omega) hp hr
theorem GL (n:Nat) (p:List Int):Hx n p.length p=gI n p:=rfl
theorem Fi (n:Nat) (p:List Int):DC n p.length p=gI n p:=rfl
theorem GP (n:Nat) (p:List Int):Dl n p.length p=gI n p:=rfl
theorem Im (n:Nat) (p:List Int) (z:List (Int × Int)):∀m v,bV (yP n p.length p) m (v,z)=(bV (gI n p) m v).map fun v=>(v,z):=by
 intro m
 induction m with
 | zero=>intro v; rfl
 | succ m ih =>
  intro v;have st:yP n p.length p (v,z)=(gI n p v).map fun x=>match x with | .inl v=>.inl (v,z) | .inr v=>.inr (v,z):=by
   unfold yP gI
   dsimp only
   cases cg v p.length
   ·rfl
   ·rw[aS,aS];cases p[v.toNat]? with
    | none=>rfl
    | some y =>
     rw[ah,ah];cases(!decide (y=v))<;>rfl
  unfold bV;rw[st];cases gI n p v with
  | none=>rfl
  | some x =>
   cases x with
   | inl v=>exact ih v
   | inr v=>rfl
def LC (x:Nat) (r:Nat→Nat) (g:Nat) (v:Nat):Bool:=x.testBit v && r v == v && v != g
def tq (x:Nat) (r:Nat→Nat) (g i:Nat):List Nat:=(List.range i).filter (LC x r g)
theorem GG (x:Nat) (r:Nat→Nat) (g i:Nat):tq x r g (i+1)=if LC x r g i then tq x r g i++[i] else tq x r g i:=by
 unfold tq;rw[List.range_succ,List.filter_append,List.filter_cons]
 split<;>simp
theorem MH {x:Nat} {r:Nat→Nat} {g i v:Nat} (h:v ∈ tq x r g i):v<i:=by
 unfold tq at h;rw[List.mem_filter,List.mem_range] at h;exact h.1
def QC (x:Nat) (r:Nat→Nat) (g i:Nat) (T:List (Int × Int)):Prop :=
 T.length=(tq x r g i).length∧∀v:Nat,aP T (v:Int)=if v ∈ tq x r g i then some (((tq x r g i).idxOf v:Nat):Int) else none
theorem HW {n x:Nat} (hx:x<2 ^ 64) (hn:64<n) {p:List Int} {r:Nat→Nat} (hp:Fst p r) (g:Nat):∃T,bV (pI n x p.length p (g:Int)) n (([]:List (Int × Int)),0)=some T∧QC x r g 64 T:=by
 refine oD (body:=pI n x p.length p (g:Int)) 64 (fun(s:List (Int × Int)) (v:Int)=>(s,v)) id (fun i s=>QC x r g i s) (fun T i hi hI=>?_) (fun T _=>?_) (n:=n) ⟨rfl,fun v=>by simp[tq,aP,cz]⟩ hn
 ·have key:pI n x p.length p (g:Int) (T,(i:Int))=some (.inl (if LC x r g i then bR T (i:Int) ((T.length:Nat):Int) else T,((i+1:Nat):Int))):=by
   unfold pI
   dsimp only
   rw[aV (by omega),cq (by omega),Int.toNat_natCast,vN hx (by omega),GL,hp.root n i n hi (by omega),bt (by omega)]
   unfold LC;cases x.testBit i
   ·rfl
   ·rw[dI,ah,ah]
    by_cases h1:r i=i
    ·rw[aV (by omega),ah]
     by_cases h2:i=g
     ·rw[decide_eq_true (by omega)]; simp[h2,ob,br]
     ·rw[decide_eq_false (by omega)]; simp[h1,h2,ob,br]
    ·rw[aO (by omega),ah]; simp[h1,ob,br]
  refine⟨_,key,?_⟩;obtain⟨hl,hg⟩:=hI;have hni:i ∉ tq x r g i:=fun h=>Nat.lt_irrefl _ (MH h);unfold QC;rw[GG]
  by_cases hP:LC x r g i=true
  ·rw[if_pos hP,if_pos hP];have hnone:aP T (i:Int)=none:=by rw[hg,if_neg hni]
   refine⟨by rw[zD _ _ _ hnone,hl,List.length_append]; rfl,fun v=>?_⟩
   rw[lN,hg,hl]
   by_cases hv:v=i
   ·subst hv;rw[if_pos rfl,if_pos (by simp),List.idxOf_append,if_neg hni]; simp
   ·rw[if_neg (by omega)]
    by_cases hm:v ∈ tq x r g i
    ·rw[if_pos hm,if_pos (by simp[hm]),List.idxOf_append,if_pos hm]
    ·rw[if_neg hm,if_neg (by simp[hm,hv])]
  ·rw[if_neg hP,if_neg hP];exact⟨hl,hg⟩
 ·unfold pI
  dsimp only
  rw[aO (by decide)]; rfl
theorem FA {n s:Nat} (hs:s≤64) (hn:64<n) (T:List (Int × Int)) (hT:T.length=s):∃L,bV (rI n s T) n ((List.replicate s ([]:List (Bool × List Nat))),0)=some L∧uS s L fun _ _=>0:=by
 have:=oD (body:=rI n s T) s (fun(l:List (List (Bool × List Nat))) (v:Int)=>(l,v)) id (fun i l=>l.length=s∧∀v,v<i→l[v]? = some (List.replicate s (false,[]))) (fun l i hi hI=>?_) (fun l _=>?_) (n:=n) (s:=List.replicate s []) ⟨by simp,fun v hv=>absurd hv (Nat.not_lt_zero _)⟩ (by omega)
 ·obtain⟨L,h1,h2,h3⟩:=this;refine⟨L,h1,h2,fun r hr=>⟨_,h3 r hr,by simp,fun c hc=>⟨false,[],by rw[List.getElem?_replicate,if_pos hc],Lg.zero⟩⟩⟩
 ·refine⟨l.set i (List.replicate s (false,[])),?_,by rw[List.length_set]; exact hI.1,fun v hv=>?_⟩
  ·unfold rI
   dsimp only
   have e3:l[i]? = some (l[i]'(by rw[hI.1]; exact hi)):=List.getElem?_eq_getElem _
   rw[aV (by omega),ah,hT,cq (by omega),Int.toNat_natCast,fR (by omega),aS,aD hi,aS,Int.toNat_natCast,e3,ah,cq (by omega),bt (by omega)]
  ·by_cases hvi:v=i
   ·subst hvi; rw[List.getElem?_set_self (by rw[hI.1]; exact hi)]
   ·rw[List.getElem?_set_ne (fun e=>hvi e.symm)]; exact hI.2 v (by omega)
 ·unfold rI
  dsimp only
  rw[aO (by omega)]; rfl
def BD (n y4:Nat) (l1:List (Int × Int)) (v w c:Int) (l2:List (List (Bool × List Nat))):Option (List (List (Bool × List Nat))) :=
ob (some ((aP l1 v).getD (0:Int),(aP l1 v).isSome)) fun(y2,y5) =>
ob (some ((aP l1 w).getD (0:Int),(aP l1 w).isSome)) fun(y3,y6) =>
ob (
br (y5) (
some y6) (
some false)) fun v0 =>
br (v0) (
gd (cg y2 ((y4:Int).toNat)) (
ob (l2[y2.toNat]?) fun l3 =>
gd (decide (0<l3.length)) (
gd (cg y2 ((y4:Int).toNat)) (
ob (l2[y2.toNat]?) fun l4 =>
gd (decide (0<l4.length)) (
gd (cg y3 l4.length) (
ob (l4[y3.toNat]?) fun(x3,l5) =>
ob (uK n c) fun(r0,l7) =>
ob (o9 n x3 l5 r0 l7) fun(r1,l8) =>
gd (cg y3 l3.length) (
gd (Nat.blt y3.toNat l3.length) (
some (l2.set y2.toNat (l3.set y3.toNat (r1,l8))))))))))) (
some l2)
theorem zX (n:Nat) (es:List (Int × Int)) (x:Nat) (p:List Int) (O:List (Int × Bool)) (T:List (Int × Int)) (s:Nat) (i:Int) (L:List (List (Bool × List Nat))) :
  uN n es x p.length p O T s (i,L)=br (decide (i<(es.length:Int))) (gd (cg i es.length) (ob (es[i.toNat]?) fun e=>ob (ob (J6 n x e.1 e.2) fun q=>br q
   (ob (ob (ob (bV (DC n p.length p) n e.1) fun v=>some v) fun va=>ob (ob (bV (Dl n p.length p) n e.2) fun v=>some v) fun vb =>
    ob (ob (some ((aP O i).getD false)) fun y=>br y (some true) (some (decide (va=vb)))) fun t=>br t (some L)
     (ob (BD n s T va va 1 L) fun L1=>ob (BD n s T vb vb 1 L1) fun L2=>ob (BD n s T va vb (-1) L2) fun L3=>ob (BD n s T vb va (-1) L3) fun L4=>some L4)) fun L5=>some L5)
   (some L)) fun L6=>some (.inl (IntKind.wrap .i64 (i+1),L6)))) (some (.inr L)):=rfl
theorem qB {n s:Nat} (hn:100<n) {P:List Nat} (hP:P.length=s) {T:List (Int × Int)} (hT:∀v:Nat,aP T (v:Int)=if v ∈ P then some ((P.idxOf v:Nat):Int) else none)
  {L:List (List (Bool × List Nat))} {M:Mt} {B:Nat} (hL:uS s L M) (hM:∀r c,r<s→c<s→(M r c).natAbs≤B) (hB:B<1000) {c:Int} {t:Bool} {k:List Nat} (hc:uK n c=some (t,k)) (hg:Lg c t k) (hc1:c.natAbs≤1) (v w:Nat) :
  ∃L',BD n s T (v:Int) (w:Int) c L=some L'∧uS s L' (fun a b=>M a b+if a=P.idxOf v∧b=P.idxOf w then c else 0)∧∀r c',r<s→c'<s→(M r c'+if r=P.idxOf v∧c'=P.idxOf w then c else 0).natAbs≤B+1:=by
 have hbd:∀r c',r<s→c'<s→(M r c'+if r=P.idxOf v∧c'=P.idxOf w then c else 0).natAbs≤B+1:=fun r c' h1 h2=>by
  have:=hM r c' h1 h2
  split<;>omega
 by_cases h:v ∈ P∧w ∈ P
 ·have hv:P.idxOf v<s:=by rw[←hP]; exact List.idxOf_lt_length_iff.2 h.1
  have hw:P.idxOf w<s:=by rw[←hP]; exact List.idxOf_lt_length_iff.2 h.2
  obtain⟨row,t1,k1,a1,a2,a3,a4⟩:=hL.at hv hw;have l1:k1.length≤1:=a4.len (by have:=hM _ _ hv hw; show _<18446744073709551616; omega)
  have l2:k.length≤1:=hg.len (by show _<18446744073709551616; omega)
  obtain⟨u,q,u1,u2⟩:=vv (n:=n) a4 hg (by omega) (by omega) (by omega)
  refine⟨L.set (P.idxOf v) (row.set (P.idxOf w) (u,q)),?_,(hL.set hv hw a1 u2).congr fun a b _ _=>?_,hbd⟩
  ·unfold BD;rw[hT v,hT w,if_pos h.1,if_pos h.2];simp only[Option.getD_some,Option.isSome_some,ah,dI,Int.toNat_natCast];rw[aD hv,aS,a1,ah,cq (by omega),aS,ah,cq (by omega),a2,aD hw,aS,a3,ah]
   dsimp only
   rw[hc,ah]
   dsimp only
   rw[u1,ah]
   dsimp only
   rw[aS,Fk hw,aS]
  ·by_cases h1:a=P.idxOf v∧b=P.idxOf w
   ·rw[if_pos h1,if_pos h1,h1.1,h1.2]
   ·rw[if_neg h1,if_neg h1,Int.add_zero]
 ·refine⟨L,?_,hL.congr fun a b ha hb=>?_,hbd⟩
  ·unfold BD;rw[hT v,hT w]
   by_cases hv:v ∈ P
   ·have hw:w ∉ P:=fun e=>h ⟨hv,e⟩;rw[if_pos hv,if_neg hw]; rfl
   ·rw[if_neg hv]
    by_cases hw:w ∈ P
    ·rw[if_pos hw]; rfl
    ·rw[if_neg hw]; rfl
  ·have h1:¬(a=P.idxOf v∧b=P.idxOf w):=fun e=>h ⟨List.idxOf_lt_length_iff.1 (by rw[←e.1,hP]; exact ha),List.idxOf_lt_length_iff.1 (by rw[←e.2,hP]; exact hb)⟩
   rw[if_neg h1,Int.add_zero]
def ki (es:List (Int × Int)) (x:Nat) (O:List (Int × Bool)) (i:Nat):Bool:=eG es x (i:Int) && !(aP O (i:Int)).getD false
def kl (es:List (Int × Int)) (x:Nat) (O:List (Int × Bool)) (i:Nat):List (Nat × Nat):=((List.range i).filter (ki es x O)).map fun(k:Nat)=>eg es (k:Int)
theorem KI (es:List (Int × Int)) (x:Nat) (O:List (Int × Bool)) (i:Nat):kl es x O (i+1)=if ki es x O i then kl es x O i++[eg es (i:Int)] else kl es x O i:=by
 unfold kl;rw[List.range_succ,List.filter_append,List.filter_cons]
 split<;>simp
theorem Hq (es:List (Int × Int)) (x:Nat) (O:List (Int × Bool)) (i:Nat):(kl es x O i).length≤i:=by
 unfold kl;rw[List.length_map];have:=List.length_filter_le (ki es x O) (List.range i);rwa[List.length_range] at this
theorem xB (φ:Nat→Nat) (e:Nat × Nat) (a b:Nat):∀E,jt φ (E++[e]) a b=jt φ E a b+dl φ e a*dl φ e b
 | []=>by simp[jt]
 | d::E=>by
  rw[List.cons_append];simp only[jt];rw[xB φ e a b E];omega
theorem LD (φ:Nat→Nat) (e:Nat × Nat) (a:Nat):dl φ e a=0∨dl φ e a=1∨dl φ e a = -1:=by
 unfold dl
 split<;>split<;>simp
theorem Br (φ:Nat→Nat) (a b:Nat):∀E,(jt φ E a b).natAbs≤E.length
 | []=>by simp[jt]
 | d::E=>by
  have:=Br φ a b E;simp only[jt,List.length_cons];rcases LD φ d a with h|h|h<;>rcases LD φ d b with h' | h' | h'<;>rw[h,h']<;>omega
theorem Ka (m:Int) {p q u w:Prop} [Decidable p] [Decidable q] [Decidable u] [Decidable w] :
  m+(if p∧u then 1 else 0)+(if q∧w then 1 else 0)+(if p∧w then -1 else 0)+(if q∧u then -1 else 0)=m+((if p then 1 else 0)-(if q then 1 else 0))*((if u then 1 else 0)-(if w then 1 else 0)):=by
 by_cases hp:p<;>by_cases hq:q<;>by_cases hu:u<;>by_cases hw:w<;>simp[hp,hq,hu,hw]<;>try omega
theorem G4 {N:Nat} {es:List (Int × Int)} (h:Okay N es) {n x:Nat} (hx:x<2 ^ 64) (hn:200<n) {p:List Int} {r:Nat→Nat} (hp:Fst p r) (O:List (Int × Bool))
  {P:List Nat} {s:Nat} (hP:P.length=s) {T:List (Int × Int)} (hT:∀v:Nat,aP T (v:Int)=if v ∈ P then some ((P.idxOf v:Nat):Int) else none)
  {L:List (List (Bool × List Nat))} (hL:uS s L fun _ _=>0) :
  ∃L',bV (uN n es x p.length p O T s) n (0,L)=some L'∧uS s L' (jt (fun v=>P.idxOf (r v)) (kl es x O es.length)):=by
 have hlen:=h.len;refine oD (body:=uN n es x p.length p O T s) es.length (fun(l:List (List (Bool × List Nat))) (v:Int)=>(v,l)) id (fun i l=>uS s l (jt (fun v=>P.idxOf (r v)) (kl es x O i))) (fun l i hi hI=>?_) (fun l _=>?_) (n:=n) hL (by omega)
 ·obtain⟨a,b,g1,g2,g3,g4,_,g5⟩:=jr h (k:=(i:Int)) ⟨by omega,by omega⟩
  rw[Int.toNat_natCast] at g1;have ha:a<64:=by omega
  have hin:eG es x (i:Int)=(x.testBit a && x.testBit b):=by
   simp only[eG,g2];rw[decide_eq_true ⟨by omega,by omega⟩,Bool.true_and]
  rw[zX,aV (by omega),aD hi,aS,Int.toNat_natCast,g1,ah]
  dsimp only
  rw[rV n x a b hx ha g4,ah,bt (by omega)]
  rw[KI];unfold ki;rw[hin,g2]
  by_cases h3:(x.testBit a && x.testBit b)=true
  ·rw[h3,dI,Fi,GP,hp.root n a n ha (by omega),hp.root n b n g4 (by omega)]
   simp only[ah,Bool.true_and]
   by_cases h4:(aP O (i:Int)).getD false=true
   ·rw[h4,dI,ah,dI,ah,ah];exact⟨l,rfl,hI⟩
   ·rw[Bool.not_eq_true] at h4;rw[h4,dt,ah,Bool.not_false,if_pos rfl]
    by_cases h5:r a=r b
    ·rw[aV (by omega),ah,ah]
     refine⟨l,rfl,hI.congr fun c d _ _=>?_⟩;rw[xB];simp[dl,h5]
    ·rw[aO (by omega)]
     have hM:∀c d,c<s→d<s→(jt (fun v=>P.idxOf (r v)) (kl es x O i) c d).natAbs≤200:=fun c d _ _=>by
      have h1:=Br (fun v=>P.idxOf (r v)) c d (kl es x O i);have h2:=Hq es x O i;omega
     obtain⟨L1,m1,n1,b1⟩:=qB (n:=n) (by omega) hP hT hI hM (by omega) (nE (by omega)) np (by decide) (r a) (r a)
     obtain⟨L2,m2,n2,b2⟩:=qB (n:=n) (by omega) hP hT n1 b1 (by omega) (nE (by omega)) np (by decide) (r b) (r b)
     obtain⟨L3,m3,n3,b3⟩:=qB (n:=n) (by omega) hP hT n2 b2 (by omega) (Ch (by omega)) FY (by decide) (r a) (r b)
     obtain⟨L4,m4,n4,b4⟩:=qB (n:=n) (by omega) hP hT n3 b3 (by omega) (Ch (by omega)) FY (by decide) (r b) (r a)
     refine⟨L4,by rw[m1,ah,m2,ah,m3,ah,m4,ah,ah,ah],n4.congr fun c d _ _=>?_⟩
     rw[xB];exact Ka _
  ·rw[Bool.not_eq_true] at h3;rw[h3,dt,ah];exact⟨l,rfl,hI⟩
 ·rw[zX,aO (by omega)]; rfl
theorem uQ {f:Nat→Int} {C:Nat}:∀n,(∀i,i<n→(f i).natAbs≤C)→(sm n f).natAbs≤n*C
 | 0,_=>by simp[sm]
 | n+1,h=>by
  have h1:=uQ n fun i hi=>h i (by omega)
  have h2:=h n (by omega)
  simp only[sm];rw[Nat.add_mul,Nat.one_mul];omega
theorem Ey (i:Nat) (x:Int):(sg i*x).natAbs=x.natAbs:=by
 unfold sg
 split<;>simp
theorem It {C N:Nat}:∀(n:Nat) (A:Mt),n≤N→(∀r c,r<n→c<n→(A r c).natAbs≤C)→(cK n A).natAbs≤(N*C) ^ n
 | 0,_,_,_=>by simp[cK]
 | n+1,A,hn,h=>by
  simp only[cK];have:=uQ (C:=C*(N*C) ^ n) (n+1) (f:=fun i=>sg i*(A i 0*cK n (pq A i))) fun i hi=>by
   rw[Ey,Int.natAbs_mul];exact Nat.mul_le_mul (h i 0 hi (by omega)) (It n (pq A i) (by omega) fun r c hr hc=>h _ _ (Bs hr) (by omega))
  refine Nat.le_trans ?_ (Nat.le_trans this ?_)
  ·refine Nat.le_of_eq (congrArg Int.natAbs (iC fun i _=>?_));simp only[Int.mul_assoc]
  ·rw[Nat.pow_succ,Nat.mul_comm ((N*C) ^ n),←Nat.mul_assoc];exact Nat.mul_le_mul_right _ (Nat.mul_le_mul_right _ hn)
theorem Et (φ:Nat→Nat) (E:List (Nat × Nat)) (hE:E.length≤200) {k r c:Nat} (hk:k<64):(cK (k+1) (kK (jt φ E) k r c)).natAbs<wp 15:=by
 have h1:=It (C:=200) (N:=64) (k+1) (kK (jt φ E) k r c) (by omega) fun a b _ _=>Nat.le_trans (Br φ _ _ E) hE
 have h2:(64*200) ^ (k+1)≤(64*200) ^ 64:=Nat.pow_le_pow_right (by decide) (by omega)
 have h3:(64*200) ^ 64<wp 15:=by decide
 omega
theorem CI (x:Nat) (r:Nat→Nat) (g:Nat):(tq x r g 64).length≤64:=by
 unfold tq;have:=List.length_filter_le (LC x r g) (List.range 64);rwa[List.length_range] at this
def rW (es:List (Int × Int)) (x:Nat) (W:List (Int × Bool)):Nat→Nat:=(wl es x W 0 es.length).foldl bh fun x=>x
def pW (es:List (Int × Int)) (x:Nat) (W:List (Int × Bool)):List Nat:=tq x (rW es x W) (rW es x W (tz x)) 64
def mW (es:List (Int × Int)) (x:Nat) (W O:List (Int × Bool)):Mt:=jt (fun v=>(pW es x W).idxOf (rW es x W v)) (kl es x O es.length)
theorem MJ {N:Nat} {es:List (Int × Int)} (h:Okay N es) {n x:Nat} (hx:x<2 ^ 64) (h0:0<x) (hn:300<n) (x1:Int) (W O:List (Int × Bool)) :
  (bX (fun x=>x) (wl es x W 0 es.length)=false→E7 n x1 es x W O=some (false,[])) ∧
  (bX (fun x=>x) (wl es x W 0 es.length)=true→(∀k,k<(pW es x W).length→(cK k (mW es x W O)).natAbs<18446744073709551616) →
   ∃t q,E7 n x1 es x W O=some (t,q)∧Lg (Lj (pW es x W).length 0 (mW es x W O) 1) t q):=by
 have hlen:=h.len;obtain⟨p0,f1,f2⟩:=Kv n (by omega)
 have f3:=Gg h hx (show 64<n by omega) W es.length 0 n p0 (fun x=>x) [] (by omega) (by omega) f2 Rt.id
 have hF:IL n x=some ((tz x:Nat):Int):=by unfold IL; rw[cq hx]
 have htz:tz x<64:=mu hx (fQ h0 hx).1;refine⟨fun ha=>?_,fun ha hP=>?_⟩
 ·obtain⟨p',k,g1⟩:=f3.2 ha;unfold E7;rw[f1,ah,ah];rw[show(0:Int)=((0:Nat):Int) from rfl,g1]
  rfl
 ·obtain⟨p,E',g1,hp,hr⟩:=f3.1 ha
  change Fst p (rW es x W) at hp
  clear hr;obtain⟨T,t1,t2,t3⟩:=HW (n:=n) hx (by omega) hp (rW es x W (tz x))
  obtain⟨L,l1,l2⟩:=FA (n:=n) (CI x (rW es x W) (rW es x W (tz x))) (by omega) T t2
  obtain⟨L',m1,m2⟩:=G4 h hx (by omega:200<n) hp O rfl t3 l2
  have hs:=CI x (rW es x W) (rW es x W (tz x));have hD:∀k r c,k<(pW es x W).length→r<(pW es x W).length→c<(pW es x W).length→(cK (k+1) (kK (mW es x W O) k r c)).natAbs<wp 15:=fun k r c hk _ _=>Et _ _ (Nat.le_trans (Hq _ _ _ _) hlen) (Nat.lt_of_lt_of_le hk hs);obtain⟨t,q,h1,h2⟩:=Eb (n:=n) (by omega) hs hD hP (pW es x W).length 0 n L' (mW es x W O) 1 false [1] (Nat.add_zero _) (Nat.lt_of_le_of_lt hs (by omega)) m2 (Bar.start _ _) np
  refine⟨t,q,?_,h2⟩;unfold E7;rw[f1,ah,ah];rw[show(0:Int)=((0:Nat):Int) from rfl,g1]
  dsimp only[ah]
  rw[hF,ah,Im,hp.root n (tz x) n htz (by omega)]
  dsimp only[ah,Option.map_some]
  have t1':bV (pI n x p.length p ((rW es x W (tz x):Nat):Int)) n (([]:List (Int × Int)),((0:Nat):Int))=some T:=t1;rw[t1',ah,t2,cq (by omega),Int.toNat_natCast,fR (by omega),aS]
  have l1':bV (rI n (tq x (rW es x W) (rW es x W (tz x)) 64).length T) n (List.replicate (tq x (rW es x W) (rW es x W (tz x)) 64).length ([]:List (Bool × List Nat)),((0:Nat):Int))=some L:=l1;rw[l1',ah];have m1':bV (uN n es x p.length p O T (tq x (rW es x W) (rW es x W (tz x)) 64).length) n (((0:Nat):Int),L)=some L':=m1;rw[m1',ah,ah,nE (by omega),ah]
  have h1':bV (jm n (tq x (rW es x W) (rW es x W (tz x)) 64).length) n (L',false,[1],((0:Nat):Int))=some (.inl (t,q))∨bV (jm n (tq x (rW es x W) (rW es x W (tz x)) 64).length) n (L',false,[1],((0:Nat):Int))=some (.inr (t,q)):=h1;rcases h1' with h1|h1<;>rw[h1]<;>rfl
theorem CV {l:List Nat} {a b:Nat} (ha:a ∈ l) (h:l.idxOf a=l.idxOf b):a=b:=by
 have h1:l.idxOf a<l.length:=List.idxOf_lt_length_iff.2 ha;have e1:l[l.idxOf a]? = some a:=by rw[List.getElem?_eq_getElem h1,List.getElem_idxOf]
 have h2:l.idxOf b<l.length:=by rw[←h]; exact h1
 have e2:l[l.idxOf b]? = some b:=by rw[List.getElem?_eq_getElem h2,List.getElem_idxOf]
 rw[h,e2] at e1;exact(Option.some.inj e1).symm
theorem BF {l:List Nat} {a:Nat}:l.idxOf a≤l.length:=List.idxOf_le_length
def kx (es:List (Int × Int)) (x:Nat) (O:List (Int × Bool)):List Int:=((List.range es.length).filter (ki es x O)).map fun(k:Nat)=>(k:Int)
theorem Fv (es:List (Int × Int)) (x:Nat) (O:List (Int × Bool)):(kx es x O).map (eg es)=kl es x O es.length:=by
 unfold kx kl;rw[List.map_map]; rfl
theorem NX {es:List (Int × Int)} {x:Nat} {O:List (Int × Bool)} {k:Int} (h:k ∈ kx es x O):eG es x k=true:=by
 obtain⟨m,h1,rfl⟩:=List.mem_map.1 h;have:=(List.mem_filter.1 h1).2;unfold ki at this;rw[Bool.and_eq_true] at this;exact this.1
theorem Ck {N:Nat} {es:List (Int × Int)} (h:Okay N es) {x:Nat} {k:Int} (hk:eG es x k=true):(eg es k).1 ∈ dH x 64∧(eg es k).2 ∈ dH x 64:=by
 obtain⟨h1,h2,h3⟩:=eD hk;obtain⟨a,b,_,e,e1,e2,_⟩:=jr h h1;rw[e] at h2 h3 ⊢;exact⟨cp.2 ⟨by omega,h2⟩,cp.2 ⟨e2,h3⟩⟩
theorem FM {N:Nat} {es:List (Int × Int)} (h:Okay N es) {x:Nat} {W:List (Int × Bool)} {i j:Nat}:∀e ∈ wl es x W i j,e.1 ∈ dH x 64∧e.2 ∈ dH x 64:=fun e he=>by
 obtain⟨m,h1,rfl⟩:=List.mem_map.1 he;have:=(List.mem_filter.1 h1).2;unfold wi at this;rw[Bool.and_eq_true] at this;exact Ck h this.1
section
variable {N : Nat} {es : List (Int × Int)} {x : Nat} {W O : List (Int × Bool)}
theorem Lz:Rt (rW es x W) (wl es x W 0 es.length).reverse:=vK _
theorem AM (h:Okay N es) {v:Nat} (hv:v ∈ dH x 64):rW es x W v ∈ dH x 64:=(fj (ew x) (FM h)).2 v hv
theorem kQ (hx:x<2 ^ 64) (h0:0<x):tz x ∈ dH x 64:=cp.2 ⟨mu hx (fQ h0 hx).1,(fQ h0 hx).1⟩
theorem H0 {v:Nat}:v ∈ pW es x W↔v ∈ dH x 64∧rW es x W v=v∧v≠rW es x W (tz x):=by
 unfold pW tq LC;rw[List.mem_filter,List.mem_range,cp];simp[and_assoc]
theorem GX (h:Okay N es) (hx:x<2 ^ 64) (h0:0<x):jv (dH x 64) (rW es x W)=(pW es x W).length+1:=by
 have hg:=AM (W:=W) h (kQ hx h0);have hrr:=(Lz (es:=es) (x:=x) (W:=W)).rr (tz x);have e1:jv (dH x 64) (rW es x W)=((List.range 64).filter fun v=>x.testBit v && rW es x W v == v).length:=by
  unfold jv dH;rw[List.filter_filter]
  congr 2
  funext v
  exact Bool.and_comm _ _
 rw[e1];unfold pW tq;refine fe (a:=rW es x W (tz x)) List.nodup_range (List.mem_range.2 (cp.1 hg).1) ?_ fun v=>?_
 ·simp[(cp.1 hg).2,hrr]
 ·unfold LC;simp
theorem Ie (h:Okay N es) (hx:x<2 ^ 64) (h0:0<x) (ha:bX (fun x=>x) (wl es x W 0 es.length)=true):(pW es x W).length+1+(wl es x W 0 es.length).length=rk x 64:=by
 have h1:=(fj (ew x) (FM (W:=W) (i:=0) (j:=es.length) h)).1;have h2:=(py (wl es x W 0 es.length) fun x=>x).2 ha;rw[h2] at h1;have h3:=GX (W:=W) h hx h0;unfold rk;have e:rep (wl es x W 0 es.length)=rW es x W:=rfl;rw[e] at h1;omega
theorem Na (h:Okay N es) {v w:Nat} (hv:v ∈ dH x 64) (hw:w ∈ dH x 64):rW es x W v=rW es x W w↔(pW es x W).idxOf (rW es x W v)=(pW es x W).idxOf (rW es x W w):=by
 refine⟨fun e=>by rw[e],fun e=>?_⟩
 have hrr:=fun v=>(Lz (es:=es) (x:=x) (W:=W)).rr v
 by_cases h1:rW es x W v ∈ pW es x W
 ·exact CV h1 e
 ·by_cases h2:rW es x W w ∈ pW es x W
  ·exact(CV h2 e.symm).symm
  ·have g1:rW es x W v=rW es x W (tz x):=Classical.byContradiction fun hc=>h1 (H0.2 ⟨AM h hv,hrr v,hc⟩);have g2:rW es x W w=rW es x W (tz x):=Classical.byContradiction fun hc=>h2 (H0.2 ⟨AM h hw,hrr w,hc⟩);rw[g1,g2]
theorem Lo (s:Nat):dg s (fun i=>i)=s:=by
 unfold dg;rw[List.filter_eq_self.2 (fun i _=>by simp)]
 exact List.length_range
end
theorem Qh (m:Nat):Ls (m+20) false []=some (0,0,0,0,0,0,0,0,0):=by rfl
theorem Ow (m c:Nat):Ls (m+20) false [c]=some (c,0,0,0,0,0,0,0,0):=by rfl
theorem mT {n c:Nat} (hn:20≤n) (hc:c<18446744073709551616) {t:Bool} {q:List Nat} (h:Lg (c:Int) t q):Ls n t q=some (c,0,0,0,0,0,0,0,0):=by
 obtain⟨m,rfl⟩:∃m,n=m+20:=⟨n-20,by omega⟩
 have ht:=h.vC;rw[decide_eq_false (by omega)] at ht
 subst ht
 by_cases h0:c=0
 ·subst h0;rw[(h.Oj).2 rfl];exact Qh m
 ·have:=h.Pk (by omega) (by simpa using hc)
  rw[this];exact Ow m c
theorem AK (n:Nat) (N:Int) (es:List (Int × Int)) (x:Nat) (hx:x<2 ^ 64) (hl:es.length<4611686018427387904) (hk:es.length<n) (hn:2<n):Ol n N es x=some (Om N es x):=by
 unfold Ol Om;rw[CE n N es hn hl hk,ah]
 by_cases hok:qU N es=true
 ·obtain⟨M,rfl,hO⟩:=qR hok;simp only[PC,hok,if_true,decide_true,Bool.not_true,dt]
  by_cases h0:x=0
  ·simp[h0,br,ob]
  ·rw[aO h0,qk n x hx,ah,ah]
   by_cases h2:2 ^ M≤x
   ·have:M<bl x:=lh.2 h2;rw[decide_eq_true (show((M:Nat):Int)<((bl x:Nat):Int) by omega),dI,if_pos (.inr (by simpa using h2))]
   ·have:¬M<bl x:=fun g=>h2 (lh.1 g);rw[decide_eq_false (show ¬((M:Nat):Int)<((bl x:Nat):Int) by omega),dt,if_neg (by simp[h0]; simpa using h2)]
 ·rw[Bool.not_eq_true] at hok;simp[PC,hok,br]
def bg (es:List (Int × Int)) (x:Nat):List (List Int):=gw es (il es x 0 es.length) (rk x 64-1) fun x=>x
theorem xj (es:List (Int × Int)) (x:Nat):kx es x []=il es x 0 es.length:=by
 unfold kx il;rw[List.range_eq_range']
 congr 1
 refine List.filter_congr fun k _=>?_;unfold ki;simp[aP,cz]
theorem LV (es:List (Int × Int)) (x i j:Nat):wl es x [] i j = []:=by
 unfold wl;rw[List.filter_eq_nil_iff.2 fun k _=>by unfold wi; simp[aP,cz]]; rfl
def ul (v:Nat):List Nat:=if v=0 then[] else[v]
theorem sK {v:Nat} (h:v≠0):ul v = [v]:=if_neg h
theorem jw {v:Nat} (h:v<18446744073709551616):Lg (v:Int) false (ul v):=by
 by_cases h0:v=0
 ·subst h0; exact Lg.zero
 ·rw[sK h0]; exact Lg.small h0 h false
theorem OB (v:Nat):vl (ul v)=v:=by
 by_cases h0:v=0
 ·subst h0; rfl
 ·rw[sK h0]; simp[vl]
theorem mX (v:Nat):(ul v).length≤1:=by unfold ul; split<;>simp
theorem Jc {n:Nat} (hn:100<n):∀(b a m:Nat),a<18446744073709551616→b<18446744073709551616→b<m→bV (jG n) m (ul a,ul b)=some (ul (Nat.gcd a b)):=by
 intro b
 induction b using Nat.strongRecOn with
 | _ b ih =>
  intro a m ha hb hm;obtain⟨m,rfl⟩:∃m',m=m'+1:=⟨m-1,by omega⟩
  by_cases h:b=0
  ·subst h;rw[Nat.gcd_zero_right];exact bH (by unfold jG; rfl)
  ·have hla:=mX a;obtain⟨q,t,m',q1,q2,q3,q4,q5,q6⟩:=th (n:=n) (jw ha).wd hb h (by omega) (by omega) (by omega)
   rw[OB] at q5;have hlt:=Nat.mod_lt a (show 0<b by omega)
   obtain⟨-,e2⟩:=q5.inj (jw (show a%b<18446744073709551616 by omega))
   have st:jG n (ul a,ul b)=some (.inl (ul b,ul (a%b))):=by
    rw[sK h];unfold jG
    dsimp only
    rw[aV (show(0:Int)<(([b]:List Nat).length:Int) by simp),q1,e2]; rfl
   rw[bm st,ih (a%b) hlt b m hb (by omega) (by omega)]
   rw[Nat.gcd_comm a b,Nat.gcd_rec b a,Nat.gcd_comm]
end Go.Proofs.YtookeaakpiefjaaGreatDoor
end

section
namespace Go.Proofs.YtookeaakpiefjaaGreatDoor
open Go Go.Ab Go.Ab.W
theorem Nd {r c x:Nat} (hc:c<2 ^ r):c ||| (x*2 ^ r)=c+x*2 ^ r:=by
 rw[Nat.or_comm,Nat.mul_comm,←Nat.two_pow_add_eq_or_of_lt hc,Nat.add_comm]
theorem sT (k:Nat):Int.tdiv (k:Int) 64=((k/64:Nat):Int):=by
 rw[Int.tdiv_eq_ediv_of_nonneg (Int.natCast_nonneg _)]; omega
theorem zm (k:Nat):Int.tmod (k:Int) 64=((k%64:Nat):Int):=by
 rw[Int.tmod_eq_emod_of_nonneg (Int.natCast_nonneg _)]; omega
theorem Ak {a:Nat} (h:a<18446744073709551616):uw .u64 a=a:=Nat.mod_eq_of_lt h
theorem E1 {x r:Nat} (hr:r<64) (hx:x<18446744073709551616) :
  ∃y,uw .u64 (bY .u64 x r)=y*2 ^ r∧y*2 ^ r<18446744073709551616∧y*2 ^ r+18446744073709551616*(x/2 ^ (64-r))=x*2 ^ r∧x/2 ^ (64-r)<2 ^ r∧y*2 ^ r+2 ^ r≤18446744073709551616:=by
 have hp:2 ^ (64-r)*2 ^ r=18446744073709551616:=by rw[←Nat.pow_add,Nat.sub_add_cancel (by omega)]
 have h2:0<2 ^ r:=Nat.pow_pos (by decide)
 have h3:0<2 ^ (64-r):=Nat.pow_pos (by decide)
 have hm:=Nat.div_add_mod x (2 ^ (64-r));have hml:=Nat.mod_lt x h3;have hs:x*2 ^ r=(x%2 ^ (64-r))*2 ^ r+18446744073709551616*(x/2 ^ (64-r)):=by
  rw[←hp,Nat.mul_assoc,Nat.mul_comm (2 ^ r),←Nat.mul_assoc,←Nat.add_mul,Nat.add_comm,hm]
 have hlt:(x%2 ^ (64-r))*2 ^ r+2 ^ r≤18446744073709551616:=by
  rw[←hp];have:=Nat.mul_le_mul_right (2 ^ r) (show x%2 ^ (64-r)+1≤2 ^ (64-r) by omega)
  rw[Nat.add_mul,Nat.one_mul] at this;exact this
 have hlt':(x%2 ^ (64-r))*2 ^ r<18446744073709551616:=by omega
 refine⟨x%2 ^ (64-r),?_,hlt',hs.symm,?_,hlt⟩
 ·have hb:min r (IntKind.bits .u64)=r:=Nat.min_eq_left (by show r≤64; omega)
  unfold bY;rw[hb]
  show(x*2 ^ r)%18446744073709551616%18446744073709551616=_
  rw[Nat.mod_mod,hs,Nat.add_mul_mod_self_left,Nat.mod_eq_of_lt hlt']
 ·rw[Nat.div_lt_iff_lt_mul h3,Nat.mul_comm,hp]; exact hx
theorem IF (P:List Nat) (c w:Nat) (z:List Nat) {i:Nat} (hi:i=P.length):(P++c::z).set i w=P++w::z:=by
 subst hi;rw[List.set_append_right _ _ (Nat.le_refl _),Nat.sub_self]; rfl
theorem Bv (P:List Nat) (c:Nat) (z:List Nat) {i:Nat} (hi:i=P.length):(P++c::z)[i]? = some c:=by
 subst hi;rw[List.getElem?_append_right (Nat.le_refl _),Nat.sub_self]; rfl
theorem IX {n k:Nat} {l:List Nat} (hl:Wd l) (hb:l.length<1000000) (hk:k<64000000) (hn:l.length+k+4<n) :
  ∃t m,FW n l (k:Int)=some m∧Lg ((vl l*2 ^ k:Nat):Int) t m:=by
 have hr:k%64<64:=Nat.mod_lt _ (by decide)
 have hq:k/64<1000000:=by omega
 generalize hqd:k/64=q at hq;generalize hrd:k%64=r at hr;have hkv:2 ^ k=wp q*2 ^ r:=by
  have:k=64*q+r:=by omega
  rw[this,Nat.pow_add,Nat.pow_mul]; rfl
 have hL:∀j i m P c,i+j=l.length→j<m→P.length=q+i→Wd P→c<2 ^ r→vl P+wp (q+i)*c+wp (q+i)*(2 ^ r*vl (l.drop i))=2 ^ k*vl l →
   ∃out,bV (oI n l (k:Int)) m (P++c::List.replicate j 0,l.length+q+1,(i:Int))=some (out,l.length+q+1)∧Wd out∧vl out=2 ^ k*vl l∧out.length=l.length+q+1:=by
  intro j
  induction j with
  | zero =>
   intro i m P c hi hm hP hw hc hv;obtain⟨m,rfl⟩:∃m',m=m'+1:=⟨m-1,by omega⟩
   have hr2:2 ^ r≤2 ^ 64:=Nat.pow_le_pow_right (by decide) (by omega)
   refine⟨P++[c],bH ?_,hw.app (Wd.one (by omega)),?_,by simp; omega⟩
   ·unfold oI
    dsimp only
    rw[aO (by omega)]; rfl
   ·rw[mQ,hP,←hv,List.drop_eq_nil_of_le (by omega)]
    simp[vl]
  | succ j ih =>
   intro i m P c hi hm hP hw hc hv;obtain⟨m,rfl⟩:∃m',m=m'+1:=⟨m-1,by omega⟩
   have hi':i<l.length:=by omega
   obtain⟨x,e2⟩:∃x,l[i]? = some x:=⟨l[i],by simp⟩
   have hx:=hl.at e2;obtain⟨y,y1,y2,y3,y4,y5⟩:=E1 hr hx;have hr2:2 ^ r≤2 ^ 63:=Nat.pow_le_pow_right (by decide) (by omega)
   have hw2:uw .u64 (uw .u64 c ||| uw .u64 (bY .u64 x r))=c+y*2 ^ r:=by
    rw[y1,Ak (show c<18446744073709551616 by omega),Nd hc,Ak (by omega)]
   have hcd:wp (q+(i+1))=18446744073709551616*wp (q+i):=gW (q+i);have hval:vl (P++[c+y*2 ^ r])+wp (q+(i+1))*(x/2 ^ (64-r))+wp (q+(i+1))*(2 ^ r*vl (l.drop (i+1)))=2 ^ k*vl l:=by
    rw[←hv,kC e2,mQ,hP,hcd,er,gJ,Nat.mul_zero,Nat.add_zero];have e1:2 ^ r*(x+18446744073709551616*vl (l.drop (i+1)))=y*2 ^ r+18446744073709551616*(x/2 ^ (64-r))+18446744073709551616*(2 ^ r*vl (l.drop (i+1))):=by
     rw[Nat.mul_add,Nat.mul_comm (2 ^ r) x,←y3,Nat.mul_left_comm]
    rw[e1];generalize x/2 ^ (64-r)=d;generalize 2 ^ r*vl (l.drop (i+1))=V;generalize y*2 ^ r=Y;simp only[Nat.mul_add,Nat.mul_assoc,Nat.mul_left_comm (wp (q+i)) 18446744073709551616];omega
   have st:oI n l (k:Int) (P++c::List.replicate (j+1) 0,l.length+q+1,(i:Int))=some (.inl ((P++[c+y*2 ^ r])++x/2 ^ (64-r)::List.replicate j 0,l.length+q+1,((i+1:Nat):Int))):=by
    unfold oI
    dsimp only
    rw[aV (by omega),aD hi',aS,Int.toNat_natCast,e2,ah,sT,zm,hqd,hrd,aK (x:=((q:Nat):Int)) (by omega) (by omega),aK (x:=(i:Int)+(q:Int)) (by omega) (by omega)]
    rw[show(i:Int)+(q:Int)=((q+i:Nat):Int) by omega,aD (by omega),aS,Int.toNat_natCast,Bv P c _ hP.symm,ah,cq (Int.natCast_nonneg _),Int.toNat_natCast,hw2,ah,aS]
    rw[IF P c _ _ hP.symm,aK (x:=64-(r:Int)) (by omega) (by omega)]
    by_cases h0:0<r
    ·rw[aV (by omega),bt (by omega),ah,cq (by omega),aD (by omega),aS,Int.toNat_natCast]
     rw[List.replicate_succ,show P++(c+y*2 ^ r)::0::List.replicate j 0=(P++[c+y*2 ^ r])++0::List.replicate j 0 by simp]
     rw[Bv (P++[c+y*2 ^ r]) 0 _ (by simp; omega),ah,IF (P++[c+y*2 ^ r]) 0 _ _ (by simp; omega),ah,bt (by omega)]
     have hsh:bL .u64 x (64-(r:Int)).toNat=x/2 ^ (64-r):=by
      unfold bL;rw[show(64-(r:Int)).toNat=64-r by omega]
      show x/2 ^ min (64-r) 64=_
      rw[Nat.min_eq_left (show 64-r≤64 by omega)]
     rw[hsh]
    ·have hr0:r=0:=by omega
     subst hr0;rw[aO (by omega),ah,bt (by omega),List.replicate_succ]
     have:x/2 ^ (64-0)=0:=Nat.div_eq_of_lt hx;rw[this];simp
   rw[bm st];refine ih (i+1) m _ _ (by omega) (by omega) (by simp; omega) (hw.app (Wd.one (by omega))) y4 hval
 obtain⟨out,o1,o2,o3,o4⟩:=hL l.length 0 n (List.replicate q 0) 0 (by omega) (by omega) (by simp) (Wd.zeros q) (Nat.pow_pos (by decide)) (by
  rw[lF,List.drop_zero,hkv,Nat.mul_zero,Nat.zero_add,Nat.add_zero,Nat.mul_assoc])
 obtain⟨t,m,m1,m2⟩:=eS (n:=n) false o2 (by omega) (by omega)
 refine⟨t,m,?_,?_⟩
 ·unfold FW;rw[sT,hqd,aK (x:=((q:Nat):Int)) (by omega) (by omega),aK (x:=(l.length:Int)+(q:Int)) (by omega) (by omega),ah]
  rw[show(l.length:Int)+(q:Int)=((l.length+q:Nat):Int) by omega,bt (by omega),cq (Int.natCast_nonneg _),Int.toNat_natCast,fR (by omega),aS]
  rw[show List.replicate (l.length+q+1) 0=List.replicate q 0++0::List.replicate l.length 0 by
   rw[show l.length+q+1=q+(l.length+1) by omega,←List.replicate_append_replicate,List.replicate_succ]]
  rw[show(0:Int)=((0:Nat):Int) from rfl,o1,ah]
  dsimp only
  rw[m1]; rfl
 ·have:tj false (vl out)=((vl l*2 ^ k:Nat):Int):=by
   unfold tj;rw[o3,Nat.mul_comm]; rfl
  rw[←this]; exact m2
theorem PE (d:Nat):d<2 ^ bl d:=by
 unfold bl
 split
 ·rename_i h; subst h; decide
 ·rename_i h; exact(Nat.log2_lt h).1 (Nat.lt_succ_self _)
theorem MF {d:Nat} (h:d≠0):2 ^ (bl d-1)≤d:=by
 unfold bl;rw[if_neg h]; exact Nat.log2_self_le h
theorem Mz {d:Nat} (h:d≠0):0<bl d:=by
 unfold bl;rw[if_neg h]; exact Nat.succ_pos _
theorem Cj {n:Nat} {l:List Nat} (hl:Wd l) (ll:∀d,l.getLast? = some d→d≠0) (hb:l.length<1000000) :
  ∃k:Nat,DN n l=some (k:Int)∧k≤64*l.length∧vl l<2 ^ k∧(l≠[]→0<k∧2 ^ (k-1)≤vl l):=by
 by_cases h:l = []
 ·subst h;exact⟨0,rfl,Nat.le_refl _,Nat.one_pos,fun h=>absurd rfl h⟩
 ·obtain⟨a,d,rfl⟩:∃a d,l=a++[d]:=⟨l.dropLast,l.getLast h,(List.dropLast_concat_getLast h).symm⟩;have hd0:=ll d (by simp)
  have hd:=hl d (by simp)
  have hla:(a++[d]).length=a.length+1:=by simp
  have hb1:2 ^ (bl d-1)≤d:=MF hd0;have hb2:d<2 ^ bl d:=PE d;have hb3:bl d≤64:=Ht (s:=64) hd;have hb0:0<bl d:=Mz hd0;have hwp:wp a.length=2 ^ (64*a.length):=by unfold wp; rw[Nat.pow_mul]
  refine⟨64*a.length+bl d,?_,by rw[hla]; omega,?_,fun _=>⟨by omega,?_⟩⟩
  ·unfold DN A2;rw[aO (by rw[hla]; omega),hla,aK (by omega) (by omega),show((a.length+1:Nat):Int)-1=((a.length:Nat):Int) by omega,aD (by omega),aS,Int.toNat_natCast,Bv a d [] rfl,ah,qk n d hd,ah,ah]
   rw[aK (x:=64-((bl d:Nat):Int)) (by omega) (by omega),aK (x:=64*((a.length+1:Nat):Int)) (by omega) (by omega),aK (by omega) (by omega)]
   congr 1; omega
  ·have h1:=kz hl.left;rw[mQ,er,gJ,Nat.mul_zero,Nat.add_zero,Nat.pow_add,←hwp];have h2:=Nat.mul_le_mul_left (wp a.length) (show d+1≤2 ^ bl d by omega)
   rw[Nat.mul_add,Nat.mul_one] at h2;omega
  ·rw[mQ,er,gJ,Nat.mul_zero,Nat.add_zero,show 64*a.length+bl d-1=64*a.length+(bl d-1) by omega,Nat.pow_add,←hwp]
   have h2:=Nat.mul_le_mul_left (wp a.length) hb1;omega
theorem JW {l:List Nat} (hl:Wd l) {k:Nat} (hk:k/64<l.length) (hd:2 ^ (k+1)∣vl l) :
  ∃w,l[k/64]? = some w∧uw .u64 (uw .u64 w ||| uw .u64 (bY .u64 1 (k%64)))<18446744073709551616∧vl (l.set (k/64) (uw .u64 (uw .u64 w ||| uw .u64 (bY .u64 1 (k%64)))))=vl l+2 ^ k:=by
 obtain⟨w,hw⟩:∃w,l[k/64]? = some w:=⟨l[k/64],by simp⟩
 have h0:=hl.at hw;generalize hqd:k/64=q at *;have hr:k%64<64:=Nat.mod_lt _ (by decide)
 generalize hrd:k%64=r at *;have hkk:k=64*q+r:=by omega
 have hwp:wp q=2 ^ (64*q):=by unfold wp; rw[Nat.pow_mul]
 have hpos:0<wp q:=xm q;have hdw:2 ^ (r+1)∣w:=by
  have h1:=ey l q (Nat.le_of_lt hk);have h2:wp q∣vl l:=Nat.dvd_trans (by rw[hwp]; exact Nat.pow_dvd_pow 2 (by omega)) hd
  have h3:vl (l.take q)=0:=by
   have h4:vl (l.take q)<wp q:=by
    have:=kz (hl.take q);rwa[List.length_take,Nat.min_eq_left (Nat.le_of_lt hk)] at this
   have h5:wp q∣vl (l.take q):=by
    rw[h1] at h2;exact(Nat.dvd_add_left (Nat.dvd_mul_right _ _)).1 h2
   exact Nat.eq_zero_of_dvd_of_lt h5 h4
  rw[h3,Nat.zero_add,kC hw] at h1;have h6:wp q*2 ^ (r+1)∣wp q*(w+18446744073709551616*vl (l.drop (q+1))):=by
   rw[←h1,hwp,←Nat.pow_add,←Nat.add_assoc,←hkk]; exact hd
  have h7:=Nat.dvd_of_mul_dvd_mul_left hpos h6;have h8:2 ^ (r+1)∣18446744073709551616*vl (l.drop (q+1)):=Nat.dvd_trans (by
   rw[show(18446744073709551616:Nat)=2 ^ 64 from rfl]; exact Nat.pow_dvd_pow 2 (by omega)) (Nat.dvd_mul_right _ _)
  exact(Nat.dvd_add_left h8).1 h7
 obtain⟨y,rfl⟩:=hdw;have h2r:2 ^ r<18446744073709551616:=by
  rw[show(18446744073709551616:Nat)=2 ^ 64 from rfl]; exact Nat.pow_lt_pow_right (by decide) hr
 have hsh:uw .u64 (bY .u64 1 r)=2 ^ r:=by
  unfold bY;rw[show min r (IntKind.bits .u64)=r from Nat.min_eq_left (by show r≤64; omega),Nat.one_mul,Ak h2r,Ak h2r]
 have hlt:2 ^ r<2 ^ (r+1):=Nat.pow_lt_pow_right (by decide) (Nat.lt_succ_self r)
 have hor:2 ^ (r+1)*y ||| 2 ^ r=2 ^ (r+1)*y+2 ^ r:=(Nat.two_pow_add_eq_or_of_lt hlt y).symm;have hfit:2 ^ (r+1)*y+2 ^ r<18446744073709551616:=by
  have hp:2 ^ (r+1)*2 ^ (63-r)=18446744073709551616:=by rw[←Nat.pow_add,show r+1+(63-r)=64 by omega]
  rw[←hp] at h0;have hy:=Nat.lt_of_mul_lt_mul_left h0;have:=Nat.mul_le_mul_left (2 ^ (r+1)) (show y+1≤2 ^ (63-r) by omega)
  rw[Nat.mul_add,Nat.mul_one,hp] at this;omega
 refine⟨_,hw,?_,?_⟩
 ·rw[hsh,Ak h0,hor,Ak hfit]; exact hfit
 ·rw[hsh,Ak h0,hor,Ak hfit];have h:=Bt (2 ^ (r+1)*y+2 ^ r) hw;rw[Nat.mul_add] at h;have e:wp q*2 ^ r=2 ^ k:=by rw[hwp,←Nat.pow_add,←hkk]
  omega
theorem CH {n:Nat} {z1 z2:Int} {s1 s2:Bool} {a b:List Nat} (ha:Lg z1 s1 a) (hb:Lg z2 s2 b) (hb0:b≠[]) (hla:a.length<10000) (hlb:b.length<10000) (hn:10000000<n) :
  ∃q t r,yw n a b=some (q,r)∧Wd q∧q.length=a.length∧vl q=vl a/vl b∧Lg ((vl a%vl b:Nat):Int) t r:=by
 have hbp:0<vl b:=Nat.lt_of_lt_of_le (xm _) (jX hb.last hb0)
 by_cases h1:b.length=1
 ·obtain⟨d,rfl⟩:∃d,b = [d]:=by
   match b,h1 with
   | [d],_=>exact⟨d,rfl⟩
  have hd:=hb.wd d (by simp)
  have hv:vl [d]=d:=by simp[vl]
  rw[hv] at hbp ⊢;obtain⟨q,t,m,q1,q2,q3,q4,q5,_⟩:=th (n:=n) ha.wd hd (by omega) (by omega) (by omega) (by omega)
  exact⟨q,t,m,q1,q2,q4,q3,q5⟩
 ·obtain⟨ka,a1,a2,a3,a4⟩:=Cj (n:=n) ha.wd ha.last (by omega)
  obtain⟨kb,b1,b2,b3,b4⟩:=Cj (n:=n) hb.wd hb.last (by omega)
  obtain⟨b5,b6⟩:=b4 hb0;have hL:∀(j m:Nat) (q r:List Nat) (t:Bool) (z:Int),j<m→j+kb≤ka+1∨j=0→Wd q→q.length=a.length→Lg z t r→r.length≤a.length+1→vl r<vl b*2 ^ j→vl a=vl q*vl b+vl r→2 ^ j∣vl q→j≤64*a.length →
    ∃q' r' t' z',bV (jo n b a) m (q,r,(j:Int)-1)=some (q',r')∧Wd q'∧q'.length=a.length∧Lg z' t' r'∧vl r'<vl b∧vl a=vl q'*vl b+vl r':=by
   intro j
   induction j with
   | zero =>
    intro m q r t z hm _ hq hql hr hrl hlt hv hdv _;obtain⟨m,rfl⟩:∃m',m=m'+1:=⟨m-1,by omega⟩
    refine⟨q,r,t,z,bH ?_,hq,hql,hr,by simpa using hlt,hv⟩
    unfold jo
    dsimp only
    rw[aO (by decide)]
   | succ j ih =>
    intro m q r t z hm hj hq hql hr hrl hlt hv hdv hja;obtain⟨m,rfl⟩:∃m',m=m'+1:=⟨m-1,by omega⟩
    obtain⟨tt,tm,t1,t2⟩:=IX (n:=n) (k:=j) hb.wd (by omega) (by omega) (by omega)
    have htv:vl tm=vl b*2 ^ j:=by rw[t2.abs,Int.natAbs_natCast]
    have htl:tm.length≤r.length∨vl r<vl tm:=by
     rcases Nat.lt_or_ge (vl r) (vl tm) with h|h
     ·exact .inr h
     ·left
      refine Decidable.byContradiction fun hc=>?_;have h5:=kz hr.wd
      by_cases htm:tm = []
      ·subst htm; simp at hc
      ·have h6:=jX t2.last htm;have h7:wp r.length≤wp (tm.length-1):=Nat.pow_le_pow_right (by decide) (by omega)
       omega
    have htlen:tm.length<1073741824:=by
     by_cases htm:tm = []
     ·subst htm; simp
     ·have h6:=jX t2.last htm;have h7:=kz hb.wd;refine Decidable.byContradiction fun hc=>?_;obtain⟨K,hK⟩:∃K:Nat,K=640000:=⟨_,rfl⟩;have h8:wp (b.length+K)≤wp (tm.length-1):=Nat.pow_le_pow_right (by decide) (by omega)
      have h9:2 ^ j≤wp K:=by
       unfold wp;rw[show(18446744073709551616:Nat)=2 ^ 64 from rfl,←Nat.pow_mul]
       exact Nat.pow_le_pow_right (by decide) (by omega)
      have h10:vl b*2 ^ j<wp b.length*wp K:=Nat.lt_of_lt_of_le (Nat.mul_lt_mul_of_pos_right h7 (Nat.pow_pos (by decide))) (Nat.mul_le_mul_left _ h9)
      rw[←Iw] at h10;omega
    obtain⟨c,c1,c2,c3⟩:=Dr (n:=n) hr.wd t2.wd hr.last t2.last (by omega) htlen (by omega)
    have hpow:vl b*2 ^ (j+1)=vl b*2 ^ j+vl b*2 ^ j:=by rw[Nat.pow_succ]; rw[←Nat.mul_assoc]; omega
    by_cases hc:0≤c
    ·have hle:vl tm≤vl r:=by
      have:=mt c2.2 (by omega)
      omega
     have hlen:tm.length≤r.length:=htl.resolve_right (by omega)
     obtain⟨u,u1,u2,u3,u4⟩:=xo (n:=n) hr.wd t2.wd hle hlen (by omega) (by omega)
     obtain⟨s',r',f1,f2⟩:=eS (n:=n) false u2 (by omega) (by omega)
     have hr'v:vl r'=vl r-vl tm:=by
      rw[f2.abs]; unfold tj; simp only[Bool.false_eq_true,if_false,Int.natAbs_natCast]; exact u3
     have hr'l:r'.length≤a.length+1:=by
      by_cases hn':r' = []
      ·subst hn'; simp
      ·have h6:=jX f2.last hn';have h5:=kz hr.wd;refine Decidable.byContradiction fun hc=>?_;have h7:wp r.length≤wp (r'.length-1):=Nat.pow_le_pow_right (by decide) (by omega)
       omega
     have hjq:j/64<q.length:=by rw[hql]; omega
     obtain⟨w,w1,w2,w3⟩:=JW hq (k:=j) hjq hdv;have st:jo n b a (q,r,((j+1:Nat):Int)-1)=some (.inl (q.set (j/64) (uw .u64 (uw .u64 w ||| uw .u64 (bY .u64 1 (j%64)))),r',(j:Int)-1)):=by
      unfold jo
      dsimp only
      rw[show((j+1:Nat):Int)-1=(j:Int) by omega,aV (Int.natCast_nonneg _),t1,ah,c1,ah,aV hc,u1,ah,f1,ah]
      dsimp only
      rw[sT,zm,aK (x:=((j/64:Nat):Int)) (by omega) (by omega),Int.toNat_natCast,Int.toNat_natCast,Int.toNat_natCast,aD (by omega),aS,w1,ah,cq (Int.natCast_nonneg _),ah,aS,ah]
      dsimp only
      rw[aK (by omega) (by omega)]
     rw[bm st];have hmulr:vl b*2 ^ j=2 ^ j*vl b:=Nat.mul_comm _ _;refine ih m _ r' s' _ (by omega) (by omega) (hq.set w2) (by rw[List.length_set]; exact hql) f2 hr'l (by omega) ?_ ?_ (by omega)
     ·rw[w3,Nat.add_mul,hr'v,hv,htv];omega
     ·rw[w3];exact Nat.dvd_add (Nat.dvd_trans (Nat.pow_dvd_pow 2 (Nat.le_succ j)) hdv) (Nat.dvd_refl _)
    ·have st:jo n b a (q,r,((j+1:Nat):Int)-1)=some (.inl (q,r,(j:Int)-1)):=by
      unfold jo
      dsimp only
      rw[show((j+1:Nat):Int)-1=(j:Int) by omega,aV (Int.natCast_nonneg _),t1,ah,c1,ah,aO hc,ah]
      dsimp only
      rw[aK (by omega) (by omega)]
     rw[bm st];have:=c2.1 (by omega)
     exact ih m q r t z (by omega) (by omega) hq hql hr hrl (by omega) hv (Nat.dvd_trans (Nat.pow_dvd_pow 2 (Nat.le_succ j)) hdv) (by omega)
  have start:∃(q' r':List Nat) (t':Bool) (z':Int),bV (jo n b a) n (List.replicate a.length 0,a,(ka:Int)-(kb:Int))=some (q',r')∧Wd q'∧q'.length=a.length∧Lg z' t' r'∧vl r'<vl b∧vl a=vl q'*vl b+vl r':=by
   by_cases hk:kb≤ka
   ·have h7:vl a<vl b*2 ^ (ka-kb+1):=by
     refine Nat.lt_of_lt_of_le a3 ?_;rw[show ka=(kb-1)+(ka-kb+1) by omega,Nat.pow_add]
     exact Nat.mul_le_mul b6 (Nat.pow_le_pow_right (by decide) (by omega))
    have:=hL (ka-kb+1) n (List.replicate a.length 0) a s1 z1 (by omega) (.inl (by omega)) (Wd.zeros _) (by simp) ha (by omega) h7 (by rw[lF]; omega) (by rw[lF]; exact Nat.dvd_zero _) (by omega)
    rw[show((ka-kb+1:Nat):Int)-1=(ka:Int)-(kb:Int) by omega] at this
    exact this
   ·obtain⟨m,rfl⟩:∃m',n=m'+1:=⟨n-1,by omega⟩
    refine⟨List.replicate a.length 0,a,s1,z1,bH ?_,Wd.zeros _,by simp,ha,?_,by rw[lF]; omega⟩
    ·unfold jo
     dsimp only
     rw[aO (by omega)]
    ·exact Nat.lt_of_lt_of_le a3 (Nat.le_trans (Nat.pow_le_pow_right (by decide) (by omega)) b6)
  obtain⟨q,r,t,z,l1,l2,l3,l4,l5,l6⟩:=start;have dr:vl r=vl a%vl b:=by rw[l6,Nat.mul_comm,Nat.mul_add_mod,Nat.mod_eq_of_lt l5]
  have dq:vl q=vl a/vl b:=by rw[l6,Nat.mul_comm,Nat.mul_add_div hbp,Nat.div_eq_of_lt l5]; rfl
  refine⟨q,false,r,?_,l2,l3,dq,⟨l4.wd,l4.last,by rw[←dr]; rfl,fun h=>(nomatch h)⟩⟩
  unfold yw;rw[cq (by omega),Int.toNat_natCast,fR (by omega),aS,aO (by omega),a1,ah,b1,ah,aK (by omega) (by omega),l1,ah]
theorem Lg.lu {z:Int} {s:Bool} {l:List Nat} (h:Lg z s l) {k:Nat} (hz:z.natAbs<wp k):l.length≤k:=by
 by_cases hl:l = []
 ·subst hl; simp
 ·have h1:=jX h.last hl;rw[h.abs] at h1;refine Decidable.byContradiction fun hc=>?_;have h2:wp k≤wp (l.length-1):=Nat.pow_le_pow_right (by decide) (by omega)
  omega
theorem Lg.lt {z:Int} {s:Bool} {l:List Nat} (h:Lg z s l):z.natAbs<wp l.length:=by
 rw[←h.abs]; exact kz h.wd
theorem Lg.un {v:Nat} {s:Bool} {l:List Nat} (h:Lg (v:Int) s l):s=false:=by
 rw[h.vC,decide_eq_false (by omega)]
theorem Lg.Rg {v:Nat} {s:Bool} {l:List Nat} (h:Lg (v:Int) s l):vl l=v:=by rw[h.abs,Int.natAbs_natCast]
theorem FD {n:Nat} (hn:10000000<n):∀(b a m:Nat) (l k:List Nat) (s t:Bool),Lg (a:Int) s l→Lg (b:Int) t k→l.length<10000→k.length<10000→b<m →
  ∃g,bV (jG n) m (l,k)=some g∧Lg ((Nat.gcd a b:Nat):Int) false g:=by
 intro b
 induction b using Nat.strongRecOn with
 | _ b ih =>
  intro a m l k s t hl hk hll hkl hm;obtain⟨m,rfl⟩:∃m',m=m'+1:=⟨m-1,by omega⟩
  by_cases hb:b=0
  ·subst hb;have:=hk.Oj.2 rfl;subst this;have hs:=hl.un;subst hs;refine⟨l,bH ?_,by rw[Nat.gcd_zero_right]; exact hl⟩
   unfold jG
   dsimp only
   rw[aO (by simp)]
  ·have hk0:k≠[]:=fun e=>hb (by have:=hk.Oj.1 e; omega)
   obtain⟨q,t',r,q1,_,_,_,q5⟩:=CH (n:=n) hl hk hk0 hll hkl hn;rw[hl.Rg,hk.Rg] at q5;have hrl:r.length<10000:=Nat.lt_of_le_of_lt (q5.lu (k:=k.length) (by
    rw[Int.natAbs_natCast];exact Nat.lt_trans (Nat.mod_lt a (Nat.pos_of_ne_zero hb)) (by have:=hk.lt; rwa[Int.natAbs_natCast] at this))) hkl
   have hlt:=Nat.mod_lt a (Nat.pos_of_ne_zero hb);obtain⟨g,g1,g2⟩:=ih (a%b) hlt b m k r t t' hk q5 hkl hrl (by omega)
   refine⟨g,?_,?_⟩
   ·rw[bm (s':=(k,r)) ?_]
    ·exact g1
    ·unfold jG
     dsimp only
     rw[aV (by have:=List.length_pos_iff.2 hk0; omega),q1,ah]
   ·rw[Nat.gcd_comm a b,Nat.gcd_rec b a,Nat.gcd_comm]; exact g2
theorem yT {n:Nat} {a b:Int} {s t:Bool} {l k:List Nat} (ha:Lg a s l) (hb:Lg b t k) (hl:l.length<10000) (hk:k.length<10000) (hn:10000000<n) (hbn:b.natAbs<n) :
  ∃g,Bi n s l t k=some (false,g)∧Lg ((Nat.gcd a.natAbs b.natAbs:Nat):Int) false g:=by
 have pos:∀{z:Int} {s:Bool} {l:List Nat},Lg z s l→Lg ((z.natAbs:Nat):Int) false l:=fun {z s l} h=>⟨h.wd,h.last,by rw[h.abs]; rfl,fun h=>(nomatch h)⟩
 obtain⟨g,g1,g2⟩:=FD hn b.natAbs a.natAbs n l k false false (pos ha) (pos hb) hl hk hbn;refine⟨g,?_,g2⟩;unfold Bi;rw[g1,ah]
theorem yV {n:Nat} {a b:Int} {s t:Bool} {l k:List Nat} (h:Lg (a*b) s l) (h':Lg b t k) (h0:b≠0) (hl:l.length<10000) (hk:k.length<10000) (hn:10000000<n) :
  ∃u m v o,wh n s l t k=some (u,m,v,o)∧Lg a u m:=by
 have hk0:k≠[]:=fun e=>h0 (h'.Oj.1 e);obtain⟨q,t',m,q1,q2,q4,q3,q5⟩:=CH (n:=n) h h' hk0 hl hk hn;obtain⟨u,m',u1,u2⟩:=eS (n:=n) (!(s == t)) q2 (by omega) (by omega)
 rw[h'.abs] at q3 q5;have hz:(vl l%b.natAbs:Nat)=0:=by rw[h.abs,Int.natAbs_mul,Nat.mul_mod_left]
 rw[hz] at q5;obtain⟨rfl,rfl⟩:=q5.inj Lg.zero;obtain⟨v,o,v1,v2⟩:=eS (n:=n) s Wd.nil (by simp) (by simp; omega)
 have v3:Lg 0 v o:=by rw[gJ,nV] at v2; exact v2
 obtain⟨rfl,rfl⟩:=v3.inj Lg.zero;refine⟨u,m',false,[],?_,?_⟩
 ·unfold wh;rw[q1,ah]
  dsimp only
  rw[u1,ah]
  dsimp only
  rw[v1,ah]
  rfl
 ·have e1:vl q=a.natAbs:=by rw[q3,h.abs,Int.natAbs_mul,Nat.mul_div_cancel _ (by omega)]
  have hs:=h.vC;have ht:=h'.vC;have:a=tj (!(s == t)) (vl q)∨(a=0):=by
   by_cases ha:a=0
   ·exact .inr ha
   ·refine .inl ?_;rw[e1,hs,ht];unfold tj
    by_cases hb0:b<0<;>by_cases ha0:a<0
    ·have:¬a*b<0:=Int.not_lt.2 (Int.mul_nonneg_of_nonpos_of_nonpos (by omega) (by omega))
     simp[hb0,this]; omega
    ·have:a*b<0:=Int.mul_neg_of_pos_of_neg (by omega) hb0
     simp[hb0,this]; omega
    ·have:a*b<0:=Int.mul_neg_of_neg_of_pos ha0 (by omega)
     simp[hb0,this]; omega
    ·have:¬a*b<0:=Int.not_lt.2 (Int.mul_nonneg (by omega) (by omega))
     simp[hb0,this]; omega
  rcases this with e|e
  ·rw[e]; exact u2
  ·rw[e,Int.natAbs_zero] at e1;rw[e1,nV] at u2;rw[e]; exact u2
theorem IV {n a b:Nat} (hn:10000000<n) (hbn:b<n) (hb0:b≠0) {s t:Bool} {l k:List Nat} (h:Lg (a:Int) s l) (h':Lg (b:Int) t k) (hl:l.length<10000) (hk:k.length<10000) :
  ∃l' k',KL n s l t k=some (false,l',false,k')∧Lg ((a/Nat.gcd a b:Nat):Int) false l'∧Lg ((b/Nat.gcd a b:Nat):Int) false k':=by
 have hg0:Nat.gcd a b≠0:=fun e=>hb0 (Nat.eq_zero_of_gcd_eq_zero_right e);have hgb:Nat.gcd a b≤b:=Nat.le_of_dvd (by omega) (Nat.gcd_dvd_right a b)
 have ea:((a/Nat.gcd a b:Nat):Int)*((Nat.gcd a b:Nat):Int)=(a:Int):=by rw[←Int.natCast_mul,Nat.div_mul_cancel (Nat.gcd_dvd_left a b)]
 have eb:((b/Nat.gcd a b:Nat):Int)*((Nat.gcd a b:Nat):Int)=(b:Int):=by rw[←Int.natCast_mul,Nat.div_mul_cancel (Nat.gcd_dvd_right a b)]
 obtain⟨g,g1,g2⟩:=yT (n:=n) h h' hl hk hn (by rw[Int.natAbs_natCast]; exact hbn)
 rw[Int.natAbs_natCast,Int.natAbs_natCast] at g2;have hgl:g.length<10000:=Nat.lt_of_le_of_lt (g2.lu (k:=k.length) (by
  rw[Int.natAbs_natCast];exact Nat.lt_of_le_of_lt hgb (by have:=h'.lt; rwa[Int.natAbs_natCast] at this))) hk
 rw[←ea] at h;rw[←eb] at h';obtain⟨u1,m1,v1,o1,f1,f2⟩:=yV (n:=n) h g2 (by omega) hl hgl hn
 obtain⟨u2,m2,v2,o2,f3,f4⟩:=yV (n:=n) h' g2 (by omega) hk hgl hn
 have hu1:=f2.un;have hu2:=f4.un;subst hu1 hu2;refine⟨m1,m2,?_,f2,f4⟩;unfold KL;rw[g1,ah]
 dsimp only
 rw[f1,ah]
 dsimp only
 rw[f3,ah]
 rfl
end Go.Proofs.YtookeaakpiefjaaGreatDoor
end

section
namespace Go.Proofs.YtookeaakpiefjaaGreatDoor
open Go Go.Ab Go.Ab.W Go.Ab.T30
theorem Av {s:Nat}:∀(E:List (Nat × Nat)) (ρ:Nat→Nat),Rho s ρ→(∀e ∈ E,e.1≤s∧e.2≤s)→qJ s ρ E≤cb E.length (dg s ρ)
 | [],ρ,h,_=>by
  simp only[qJ,List.length_nil]
  by_cases h0:dg s ρ=0
  ·rw[if_pos (lL.1 h0),h0]; exact Nat.le_refl _
  ·rw[if_neg (fun e=>h0 (lL.2 e))]; exact Nat.zero_le _
 | (a,b)::E,ρ,h,hE=>by
  have ha:a≤s:=(hE (a,b) List.mem_cons_self).1;have hb:b≤s:=(hE (a,b) List.mem_cons_self).2;have hE':∀e ∈ E,e.1≤s∧e.2≤s:=fun e he=>hE e (List.mem_cons_of_mem _ he);have h1:=Av E ρ h hE';simp only[qJ,List.length_cons]
  by_cases hab:ρ a=ρ b
  ·rw[if_pos hab];exact Nat.le_trans h1 (Da (Nat.le_succ _) _)
  ·rw[if_neg hab];have h2:=Av E _ (h.step ha hb hab) hE';have h3:=DE h ha hb hab;rw[h3] at h1 ⊢;rw[qA];omega
theorem EH (φ:Nat→Nat) (E:List (Nat × Nat)) (k:Nat):(cK k (jt φ E)).natAbs≤cb E.length k:=by
 rw[rP];have:=Av (s:=k) (jD (fun v=>xD k (φ v)) E) (fun i=>i) (Rho.id k) fun e he=>by
  unfold jD at he;obtain⟨e',_,rfl⟩:=List.mem_map.1 he;exact⟨oW _ _,oW _ _⟩
 rw[Lo] at this;unfold jD at this;rw[List.length_map] at this;exact this
section
variable {N : Nat} {es : List (Int × Int)} {x : Nat} {W O : List (Int × Bool)}
theorem DA (h:Okay N es) {n:Nat} (hx:x<2 ^ 64) (h0:0<x) (hn:300<n) (x1:Int) (hk:∀k,k<(pW es x W).length→cb (kx es x O).length k<18446744073709551616) :
  (bX (fun x=>x) (wl es x W 0 es.length)=false→E7 n x1 es x W O=some (false,[])) ∧
  (bX (fun x=>x) (wl es x W 0 es.length)=true→∃t q,E7 n x1 es x W O=some (t,q)∧Lg ((gw es (kx es x O) (pW es x W).length (rW es x W)).length:Int) t q):=by
 have hF:=MJ h hx h0 hn x1 W O;refine⟨hF.1,fun ha=>?_⟩;have hkl:(kl es x O es.length).length=(kx es x O).length:=by rw[←Fv,List.length_map]
 obtain⟨t,q,h1,h2⟩:=hF.2 ha fun k hk'=>by
  have:=EH (fun v=>(pW es x W).idxOf (rW es x W v)) (kl es x O es.length) k;have h3:=hk k hk';rw[hkl] at this;unfold mW;omega
 refine⟨t,q,h1,?_⟩;have e1:Lj (pW es x W).length 0 (mW es x W O) 1=_:=KU (fun v=>(pW es x W).idxOf (rW es x W v)) (kl es x O es.length) (pW es x W).length fun e _=>⟨BF,BF⟩;have e2:=BB (es:=es) (V:=fun v=>v ∈ dH x 64) (s:=(pW es x W).length) (ψ:=fun v=>(pW es x W).idxOf (rW es x W v)) (fun v _=>BF) (kx es x O) (rW es x W) (fun i=>i) (Rho.id _) (fun v w hv hw=>Na h hv hw) (fun k hk=>Ck h (NX hk));rw[Lo,Fv] at e2;rw[e1,←e2] at h2;exact h2
end
def BO (l:List Nat):List Nat:=List.zipWith (· + ·) (0::l) l
def u7 (K:Nat):Nat→List Nat
 | 0=>1::List.replicate K 0
 | e+1=>BO (u7 K e)
theorem nJ (K:Nat):∀e k,k≤K→(u7 K e)[k]? = some (cb e k)
 | 0,0,_=>rfl
 | 0,k+1,h=>by
  show(List.replicate K 0)[k]? = some 0
  rw[List.getElem?_replicate,if_pos (by omega)]
 | e+1,0,h=>by
  have:=nJ K e 0 h;unfold u7 BO;rw[List.getElem?_zipWith,this,List.getElem?_cons_zero,ov,ov]
 | e+1,k+1,h=>by
  have h1:=nJ K e k (by omega)
  have h2:=nJ K e (k+1) h;unfold u7 BO;rw[List.getElem?_zipWith,h2,List.getElem?_cons_succ,h1,qA]
theorem GS {K e B:Nat} (h:(u7 K e).all (fun x=>Nat.blt x B)=true) {k:Nat} (hk:k≤K):cb e k<B:=by
 have:=List.all_eq_true.1 h _ (List.mem_of_getElem? (nJ K e k hk));rwa[Nat.blt_eq] at this
def Kr (r r':Nat→Nat):Prop:=∀v w,r v=r w↔r' v=r' w
theorem Kr.join {r r':Nat→Nat} (h:Kr r r') (e:Nat × Nat):Kr (bh r e) (bh r' e):=by
 intro v w
 by_cases h1:r e.1=r e.2
 ·rw[e6 h1,e6 ((h _ _).1 h1)]; exact h v w
 ·rw[bT h1,bT (fun g=>h1 ((h _ _).2 g)),h v w,h v e.1,h v e.2,h w e.1,h w e.2]
theorem FF (es:List (Int × Int)):∀(L:List Int) (d:Nat) {r r':Nat→Nat},Kr r r'→gw es L d r=gw es L d r'
 | L,0,_,_,_=>by cases L<;>rfl
 | [],d+1,_,_,_=>rfl
 | k::L,d+1,r,r',h=>by
  simp only[gw];rw[FF es L (d+1) h,FF es L d (h.join (eg es k))]
  by_cases h1:r (eg es k).1=r (eg es k).2
  ·rw[if_pos h1,if_pos ((h _ _).1 h1)]
  ·rw[if_neg h1,if_neg (fun g=>h1 ((h _ _).2 g))]
theorem Az (es:List (Int × Int)):∀(L:List Int) (d:Nat) (r:Nat→Nat),∀t ∈ gw es L d r,∀k ∈ t,k ∈ L
 | L,0,r,t,ht,k,hk=>by
  have:gw es L 0 r = [[]]:=by cases L<;>rfl
  rw[this,List.mem_singleton] at ht;rw[ht] at hk; cases hk
 | [],d+1,_,t,ht,_,_=>by cases ht
 | m::L,d+1,r,t,ht,k,hk=>by
  simp only[gw] at ht;rcases List.mem_append.1 ht with ht|ht
  ·split at ht
   ·cases ht
   ·obtain⟨t',h1,rfl⟩:=List.mem_map.1 ht;rcases List.mem_cons.1 hk with rfl|hk
    ·exact List.mem_cons_self
    ·exact List.mem_cons_of_mem _ (Az es L d _ t' h1 k hk)
  ·exact List.mem_cons_of_mem _ (Az es L (d+1) _ t ht k hk)
def hv (k:Int) (T:List (List Int)):Nat:=(T.filter fun t=>t.contains k).length
theorem A1 (k:Int) (S T:List (List Int)):hv k (S++T)=hv k S+hv k T:=by unfold hv; rw[List.filter_append,List.length_append]
theorem JB {k:Int} {T:List (List Int)} (h:∀t ∈ T,k ∉ t):hv k T=0:=by
 unfold hv;rw[List.filter_eq_nil_iff.2 fun t ht=>by simpa using h t ht]; rfl
theorem zd (k:Int) (T:List (List Int)):hv k (T.map (k::·))=T.length:=by
 unfold hv;rw[List.filter_eq_self.2 fun t ht=>by
  obtain⟨t',_,rfl⟩:=List.mem_map.1 ht;simp,List.length_map]
theorem tY {k m:Int} (hne:k≠m) (T:List (List Int)):hv k (T.map (m::·))=hv k T:=by
 unfold hv;rw[List.filter_map,List.length_map]
 congr 2
 funext t
 simp[hne]
theorem vV (es:List (Int × Int)) (k:Int) (L:List Int) (d:Nat) {r:Nat→Nat} (h:r (eg es k).1=r (eg es k).2):gw es (k::L) d r=gw es L d r:=by
 cases d with
 | zero=>cases L<;>rfl
 | succ d=>simp only[gw]; rw[if_pos h,List.nil_append]
theorem join_self {r:Nat→Nat} (e:Nat × Nat):bh r e e.1=bh r e e.2:=by
 by_cases h:r e.1=r e.2
 ·rw[e6 h]; exact h
 ·rw[bT h]; exact .inr ⟨.inl rfl,.inr rfl⟩
theorem join_comm {r:Nat→Nat} {e f:Nat × Nat} (he:r e.1≠r e.2) (hf:r f.1≠r f.2):(bh r e f.1=bh r e f.2↔bh r f e.1=bh r f e.2)∧Kr (bh (bh r e) f) (bh (bh r f) e):=by
 have h1:bh r e f.1=bh r e f.2↔bh r f e.1=bh r f e.2:=by
  rw[bT he,bT hf]; omega
 refine⟨h1,fun v w=>?_⟩
 by_cases h2:bh r e f.1=bh r e f.2
 ·rw[e6 h2,e6 (h1.1 h2),bT he,bT hf];rw[bT he] at h2;omega
 ·have h3:¬bh r f e.1=bh r f e.2:=fun g=>h2 (h1.2 g);rw[bT h2,bT h3];rw[bT he] at h2;rw[bT hf] at h3;simp only[bT he,bT hf];clear h1;generalize r v=a;generalize r w=b;generalize r e.1=p at *;generalize r e.2=q at *;generalize r f.1=u at *;generalize r f.2=z at *
  grind
theorem B3 (es:List (Int × Int)) (k:Int):∀(L:List Int) (d:Nat) (r:Nat→Nat),L.Nodup→k ∈ L→r (eg es k).1≠r (eg es k).2→hv k (gw es L (d+1) r)=(gw es L d (bh r (eg es k))).length
 | m::L,d,r,hn,hk,hr=>by
  obtain⟨n1,n2⟩:=List.nodup_cons.1 hn
  by_cases hkm:k=m
  ·subst hkm;simp only[gw];rw[if_neg hr,A1,zd,JB fun t ht hkt=>n1 (Az es L (d+1) r t ht k hkt),vV es k L d (join_self _)]
   rfl
  ·have hk':k ∈ L:=(List.mem_cons.1 hk).resolve_left hkm;simp only[gw];rw[A1,B3 es k L d r n2 hk' hr]
   by_cases hm:r (eg es m).1=r (eg es m).2
   ·rw[if_pos hm];have:bh r (eg es k) (eg es m).1=bh r (eg es k) (eg es m).2:=by rw[bT hr]; exact .inl hm
    rw[vV es m L d this]
    show 0+_=_
    omega
   ·rw[if_neg hm,tY hkm];obtain⟨c1,c2⟩:=join_comm hm hr;cases d with
    | zero =>
     have e0:∀(L:List Int) (r:Nat→Nat),gw es L 0 r = [[]]:=fun L r=>by cases L<;>rfl
     rw[e0,e0,e0]; rfl
    | succ d =>
     by_cases h2:bh r (eg es m) (eg es k).1=bh r (eg es m) (eg es k).2
     ·have h3:=c1.1 h2;rw[vV es m L (d+1) h3];have:hv k (gw es L (d+1) (bh r (eg es m)))=0:=hv_none_loop es k L (d+1) _ h2;rw[this]; omega
     ·have h3:¬bh r (eg es k) (eg es m).1=bh r (eg es k) (eg es m).2:=fun g=>h2 (c1.2 g);rw[B3 es k L d _ n2 hk' h2];simp only[gw];rw[if_neg h3,List.length_append,List.length_map,FF es L d c2]
where
 hv_none_loop (es:List (Int × Int)) (k:Int):∀(L:List Int) (d:Nat) (r:Nat→Nat),r (eg es k).1=r (eg es k).2→hv k (gw es L d r)=0
 | L,0,r,_=>by
  have:gw es L 0 r = [[]]:=by cases L<;>rfl
  rw[this]; rfl
 | [],d+1,r,_=>rfl
 | m::L,d+1,r,h=>by
  simp only[gw];rw[A1,hv_none_loop es k L (d+1) r h]
  by_cases hm:r (eg es m).1=r (eg es m).2
  ·rw[if_pos hm]; rfl
  ·rw[if_neg hm]
   by_cases hkm:k=m
   ·rw[hkm] at h; exact absurd h hm
   ·rw[tY hkm,hv_none_loop es k L d _ (by rw[bT hm]; exact .inl h)]
def gt (W:List (Int × Bool)) (k:Nat):Bool:=(aP W (k:Int)).getD false
structure Dcd (es:List (Int × Int)) (x:Nat) (W O:List (Int × Bool)) (i:Nat):Prop where
 lt:∀k,k<i→eG es x (k:Int)=true→gt W k = !gt O k
 ge:∀k,i≤k→gt W k=false∧gt O k=false
def hd (es:List (Int × Int)) (x:Nat) (W:List (Int × Bool)) (i:Nat):List Int:=((List.range i).filter (wi es x W)).map fun(k:Nat)=>(k:Int)
section
variable {N : Nat} {es : List (Int × Int)} {x i : Nat} {W O : List (Int × Bool)}
def rh (es:List (Int × Int)) (x:Nat) (W:List (Int × Bool)) (i:Nat):Nat→Nat:=rep ((hd es x W i).map (eg es))
theorem N8 (W:List (Int × Bool)) (i k:Nat) (b:Bool):gt (bR W (i:Int) b) k=if k=i then b else gt W k:=by
 unfold gt;rw[fm]
 by_cases h:k=i
 ·rw[if_pos h,if_pos (by omega)]
 ·rw[if_neg h,if_neg (by omega)]
theorem Dcd.skip (h:Dcd es x W O i) (hin:eG es x (i:Int)=false):Dcd es x W O (i+1):=by
 refine⟨fun k hk hk2=>?_,fun k hk=>h.ge k (by omega)⟩
 by_cases hki:k=i
 ·subst hki; rw[hin] at hk2; cases hk2
 ·exact h.lt k (by omega) hk2
end
section
variable {N : Nat} {es : List (Int × Int)} {x : Nat}
def G (es:List (Int × Int)) (x:Nat) (W:List (Int × Bool)) (i:Nat):List (List Int):=gw es (il es x i (es.length-i)) (rk x 64-1-(hd es x W i).length) (rh es x W i)
structure Uv (es:List (Int × Int)) (x:Nat) (z:Int) (tgt:List Int) (i:Nat) (s:Bool) (l:List Nat) (W O:List (Int × Bool)) (tr:List Int) (zi:Int):Prop where
 dcd:Dcd es x W O i
 fresh:∀k:Nat,i≤k→aP W (k:Int)=none
 join:bX (fun x=>x) ((hd es x W i).map (eg es))=true
 tr:tr=hd es x W i
 lg:Lg zi s l
 lo:0≤zi
 hi:zi≤z
 len:(hd es x W i).length+1≤rk x 64
 at_:∃t,(G es x W i)[zi.toNat]? = some t∧hd es x W i++t=tgt
end
theorem qx (es:List (Int × Int)):∀(L:List Int) (d:Nat) (r:Nat→Nat),∀t ∈ gw es L d r,t.Sublist L
 | L,0,r,t,ht=>by
  have:gw es L 0 r = [[]]:=by cases L<;>rfl
  rw[this,List.mem_singleton] at ht;rw[ht]; exact List.nil_sublist _
 | [],d+1,_,t,ht=>by cases ht
 | m::L,d+1,r,t,ht=>by
  simp only[gw] at ht;rcases List.mem_append.1 ht with ht|ht
  ·split at ht
   ·cases ht
   ·obtain⟨t',h1,rfl⟩:=List.mem_map.1 ht;exact(qx es L d _ t' h1).cons_cons m
  ·exact(qx es L (d+1) _ t ht).cons m
theorem sU (es:List (Int × Int)) (x i j:Nat):(il es x i j).Nodup:=by
 unfold il;refine List.Pairwise.map _ (fun a b h=>?_) (List.Pairwise.filter _ List.nodup_range');intro e;exact h (by omega)
theorem Nr {es:List (Int × Int)} {x k:Nat} (hin:eG es x (k:Int)=true) (hk:k<es.length):wl es x (bR ([]:List (Int × Bool)) (k:Int) true) 0 es.length = [eg es (k:Int)]:=by
 have h1:∀i,wi es x (bR ([]:List (Int × Bool)) (k:Int) true) i=(i == k):=fun i=>by
  have h2:=N8 [] k i true;unfold gt at h2;unfold wi;rw[h2]
  by_cases h:i=k
  ·subst h; rw[hin]; simp
  ·rw[if_neg h]; simp[h,aP,cz]
 unfold wl;have h3:(List.range' 0 es.length).filter (wi es x (bR ([]:List (Int × Bool)) (k:Int) true))=(List.range' 0 es.length).filter (· == k):=List.filter_congr fun i _=>h1 i;have hnd:(List.range' 0 es.length).Nodup:=List.nodup_range';rw[h3,List.filter_beq,hnd.count,if_pos (by rw[List.mem_range'_1]; omega)]
 rfl
section
variable {N : Nat} {es : List (Int × Int)} {x : Nat}
theorem Kp (es:List (Int × Int)) (x i:Nat):il es x 0 (i+1)=if eG es x (i:Int) then il es x 0 i++[(i:Int)] else il es x 0 i:=by
 unfold il;rw[List.range'_1_concat,List.filter_append,List.map_append,Nat.zero_add,List.filter_cons]
 split<;>simp
structure Uk (es:List (Int × Int)) (x:Nat) (tgt:List Int) (i:Nat) (s:Bool) (l:List Nat) (W O:List (Int × Bool)) (z:Nat):Prop where
 dcd:Dcd es x W O i
 fresh:∀k:Nat,i≤k→aP W (k:Int)=none
 join:bX (fun x=>x) ((hd es x W i).map (eg es))=true
 lg:Lg (z:Int) s l
 len:(hd es x W i).length+1≤rk x 64
 rest:∃t,t ∈ G es x W i∧hd es x W i++t=tgt
 pos:∀(p:Nat) t,(G es x W i)[p]? = some t→(bg es x)[z+p]? = some (hd es x W i++t)
theorem GQ {i j:Nat} {k:Int} (h:k ∈ il es x i j):(i:Int)≤k:=by
 obtain⟨m,h1,rfl⟩:=List.mem_map.1 h;have:=(List.mem_range'_1.1 (List.mem_filter.1 h1).1).1;omega
end
theorem qz (es:List (Int × Int)):∀(L:List Int) (d:Nat) (r:Nat→Nat) (b:List Int),b ∈ gw es L d r→b.length=d
 | L,0,r,b,h=>by
  have:b = []:=by cases L<;>simpa [gw] using h
  rw[this]; rfl
 | [],d+1,r,b,h=>by simp[gw] at h
 | k::L,d+1,r,b,h=>by
  simp only[gw] at h;rcases List.mem_append.1 h with h|h
  ·split at h
   ·cases h
   ·obtain⟨t,ht,rfl⟩:=List.mem_map.1 h;rw[List.length_cons,qz es L d _ t ht]
  ·exact qz es L (d+1) r b h
theorem AT (es:List (Int × Int)) (x:Nat):∀j i,(il es x i j).Pairwise (· < ·)
 | 0,i=>List.Pairwise.nil
 | j+1,i=>by
  rw[JE]
  split
  ·refine List.pairwise_cons.2 ⟨fun k hk=>?_,AT es x j (i+1)⟩;have:=GQ hk; omega
  ·exact AT es x j (i+1)
theorem wW (es:List (Int × Int)):∀(L:List Int) (d:Nat) (r:Nat→Nat) (b:List Int),b ∈ gw es L d r→bX r (b.map (eg es))=true
 | L,0,r,b,h=>by
  have:b = []:=by cases L<;>simpa [gw] using h
  rw[this]; rfl
 | [],d+1,r,b,h=>by simp[gw] at h
 | k::L,d+1,r,b,h=>by
  simp only[gw] at h;rcases List.mem_append.1 h with h|h
  ·split at h
   ·cases h
   ·rename_i hne;obtain⟨t,ht,rfl⟩:=List.mem_map.1 h;rw[List.map_cons,bX,wW es L d _ t ht,Bool.and_true]
    simpa using hne
  ·exact wW es L (d+1) r b h
theorem Ft (es:List (Int × Int)) (x:Nat):∀(l:List Int) (p:Int),l.Pairwise (· < ·)→(∀k ∈ l,eG es x k=true∧p<k)→Le es x p l=true
 | [],_,_,_=>rfl
 | a::l,p,h,hk=>by
  obtain⟨h1,h2⟩:=List.pairwise_cons.1 h;obtain⟨k1,k2⟩:=hk a List.mem_cons_self;simp only[Le,k1,decide_eq_true k2,Bool.true_and,Bool.and_true];exact Ft es x l a h2 fun k hkl=>⟨(hk k (List.mem_cons_of_mem _ hkl)).1,h1 k hkl⟩
theorem HU {es:List (Int × Int)} {x:Nat} (hx:x<2 ^ 64) (h0:x≠0) {l:List Int} (h:l ∈ bg es x):PM es x l=true:=by
 have h1:=CZ hx h0;have hs:=qx _ _ _ _ l h;have hi:∀k ∈ l,eG es x k=true∧(-1:Int)<k:=fun k hk=>by
  have hm:=hs.subset hk;refine⟨BP hm,?_⟩;have:=GQ hm; omega
 unfold PM;rw[Ft es x l (-1) ((AT es x _ _).sublist hs) hi,wW _ _ _ _ _ h,Bool.true_and,Bool.and_true];have:=qz _ _ _ _ _ h;exact decide_eq_true (by omega)
def up (k:Nat) (i:Int):Int:=if i<(k:Int) then i else i+1
theorem Lx {es:List (Int × Int)} {k:Nat} (i:Nat):eg (es.eraseIdx k) (i:Int)=eg es (up k (i:Int)):=by
 unfold eg up;rw[Int.toNat_natCast,List.getElem?_eraseIdx]
 by_cases h:i<k
 ·rw[if_pos h,if_pos (by omega),Int.toNat_natCast]
 ·rw[if_neg h,if_neg (by omega),show((i:Int)+1).toNat=i+1 by omega]
theorem LS {es:List (Int × Int)} {k x:Nat} (hk:k<es.length) (i:Nat):eG (es.eraseIdx k) x (i:Int)=eG es x (up k (i:Int)):=by
 unfold eG;rw[Lx];have:decide ((0:Int)≤(i:Int)∧(i:Int)<((es.eraseIdx k).length:Int))=decide (0≤up k (i:Int)∧up k (i:Int)<(es.length:Int)):=by
  rw[List.length_eraseIdx,if_pos hk,decide_eq_decide];unfold up
  split<;>omega
 rw[this]
theorem GY (k:Nat):∀d,(List.range (k+d)).map (fun(i:Nat)=>up k (i:Int))=((List.range (k+d+1)).map fun(i:Nat)=>(i:Int)).filter (fun i=>!decide (i=(k:Int)))
 | 0=>by
  rw[Nat.add_zero,List.range_succ,List.map_append,List.filter_append,List.map_singleton];have h1:(List.range k).map (fun(i:Nat)=>up k (i:Int))=(List.range k).map fun(i:Nat)=>(i:Int):=List.map_congr_left fun i hi=>by
   unfold up; rw[if_pos (by have:=List.mem_range.1 hi; omega)]
  have h2:((List.range k).map fun(i:Nat)=>(i:Int)).filter (fun i=>!decide (i=(k:Int)))=(List.range k).map fun(i:Nat)=>(i:Int):=List.filter_eq_self.2 fun i hi=>by
   obtain⟨j,hj,rfl⟩:=List.mem_map.1 hi;have:=List.mem_range.1 hj;rw[decide_eq_false (by omega)]; rfl
  rw[h1,h2]; simp
 | d+1=>by
  rw[←Nat.add_assoc,List.range_succ,List.map_append,GY k d,List.range_succ (n:=k+d+1),List.map_append,List.filter_append];have:up k ((k+d:Nat):Int)=((k+d+1:Nat):Int):=by unfold up; rw[if_neg (by omega)]; omega
  rw[List.map_singleton,List.map_singleton,this,List.filter_cons_of_pos (by simp; omega)]; rfl
theorem C0 (es:List (Int × Int)) (x:Nat):il es x 0 es.length=((List.range es.length).map fun(i:Nat)=>(i:Int)).filter (fun i=>eG es x i):=by
 unfold il;rw[List.filter_map,List.range_eq_range']; rfl
theorem P5 {es:List (Int × Int)} {k x:Nat} (hk:k<es.length):(il (es.eraseIdx k) x 0 (es.eraseIdx k).length).map (up k)=(il es x 0 es.length).filter (fun i=>!decide (i=(k:Int))):=by
 have hl:(es.eraseIdx k).length+1=es.length:=by rw[List.length_eraseIdx,if_pos hk]; omega
 obtain⟨d,hd⟩:∃d,(es.eraseIdx k).length=k+d:=⟨(es.eraseIdx k).length-k,by omega⟩
 rw[C0,C0,hd,show es.length=k+d+1 by omega]
 have h1:((List.range (k+d)).map fun(i:Nat)=>(i:Int)).filter (fun i=>eG (es.eraseIdx k) x i)=((List.range (k+d)).map fun(i:Nat)=>(i:Int)).filter ((fun i=>eG es x i) ∘ up k):=List.filter_congr fun i hi=>by
  obtain⟨j,hj,rfl⟩:=List.mem_map.1 hi;exact LS hk j
 rw[h1,←List.filter_map,List.map_map,show(up k ∘ fun(i:Nat)=>(i:Int))=fun(i:Nat)=>up k (i:Int) from rfl,GY,List.filter_filter,List.filter_filter]
 exact List.filter_congr fun i _=>Bool.and_comm _ _
theorem HI {es:List (Int × Int)} {k:Nat}:∀(L:List Int) (d:Nat) (r:Nat→Nat),(∀i ∈ L,(0:Int)≤i)→(gw (es.eraseIdx k) L d r).length=(gw es (L.map (up k)) d r).length
 | L,0,r,_=>by cases L<;>rfl
 | [],d+1,_,_=>rfl
 | i::L,d+1,r,h=>by
  obtain⟨j,rfl⟩:=Int.eq_ofNat_of_zero_le (h i List.mem_cons_self);have h':∀i ∈ L,(0:Int)≤i:=fun i hi=>h i (List.mem_cons_of_mem _ hi);rw[List.map_cons];unfold gw;rw[List.length_append,List.length_append,HI L (d+1) r h',Lx]
  split
  ·rfl
  ·rw[List.length_map,List.length_map,HI L d _ h']
theorem BV (es:List (Int × Int)) (k:Int):∀(L:List Int) (d:Nat) (r:Nat→Nat),(gw es L d r).filter (fun t=>!t.contains k)=gw es (L.filter fun i=>!decide (i=k)) d r
 | L,0,r=>by
  have h:∀L,gw es L 0 r = [[]]:=fun L=>by cases L<;>rfl
  rw[h,h]; rfl
 | [],d+1,_=>rfl
 | m::L,d+1,r=>by
  unfold gw;rw[List.filter_append,BV es k L (d+1) r]
  by_cases hm:m=k
  ·subst hm;rw[List.filter_cons_of_neg (by simp)]
   have:(if r (eg es m).1=r (eg es m).2 then[] else(gw es L d (bh r (eg es m))).map (m::·)).filter (fun t=>!t.contains m) = []:=by
    split
    ·rfl
    ·rw[List.filter_eq_nil_iff];intro t ht;obtain⟨u,_,rfl⟩:=List.mem_map.1 ht;simp
   rw[this,List.nil_append];cases hL:L.filter fun i=>!decide (i=m)<;>rfl
  ·rw[List.filter_cons_of_pos (by simp[hm])]
   show _=(if r (eg es m).1=r (eg es m).2 then[] else(gw es (L.filter fun i=>!decide (i=k)) d (bh r (eg es m))).map (m::·))++gw es (L.filter fun i=>!decide (i=k)) (d+1) r
   congr 1
   split
   ·rfl
   ·rw[List.filter_map,←BV es k L d]
    congr 1
    refine List.filter_congr fun t _=>?_
    show(!(m::t).contains k) = !t.contains k
    rw[List.contains_cons];have:(k == m)=false:=by simp; exact fun e=>hm e.symm
    rw[this,Bool.false_or]
theorem pH {α:Type} (p:α→Bool):∀l:List α,l.length=(l.filter p).length+(l.filter fun a=>!p a).length
 | []=>rfl
 | a::l=>by
  rw[List.length_cons,pH p l,List.filter_cons,List.filter_cons];cases p a
  ·simp only[Bool.not_false,if_true,Bool.false_eq_true,if_false,List.length_cons]; omega
  ·simp only[Bool.not_true,if_true,Bool.false_eq_true,if_false,List.length_cons]; omega
theorem A3 {es:List (Int × Int)} {k x:Nat} (hk:k<es.length):(bg es x).length=hv (k:Int) (bg es x)+(bg (es.eraseIdx k) x).length:=by
 have h1:(bg (es.eraseIdx k) x).length=((bg es x).filter fun t=>!t.contains (k:Int)).length:=by
  unfold bg;rw[HI _ _ _ fun i hi=>GQ hi,P5 hk,BV]
 rw[h1];exact pH _ _
end Go.Proofs.YtookeaakpiefjaaGreatDoor
end

section
namespace Go.Proofs.YtookeaakpiefjaaGreatDoor
open Go Go.Ab Go.Ab.W
theorem mR:∀{t L:List Int},t.Sublist L→L.Nodup→(L.filter fun k=>t.contains k).length=t.length
 | _,_,.slnil,_=>rfl
 | t,a::L,.cons _ h,hn=>by
  obtain⟨n1,n2⟩:=List.nodup_cons.1 hn;have ha:a ∉ t:=fun e=>n1 (h.subset e);rw[List.filter_cons_of_neg (by simpa using ha)]
  exact mR h n2
 | a::t,_::L,.cons_cons _ h,hn=>by
  obtain⟨n1,n2⟩:=List.nodup_cons.1 hn;rw[List.filter_cons_of_pos (by simp),List.length_cons,List.length_cons,←mR h n2]
  congr 2
  refine List.filter_congr fun k hk=>?_;have:k≠a:=fun e=>n1 (by rw[←e]; exact hk)
  simp[this]
theorem KX (k:Int) (t:List Int) (T:List (List Int)):hv k (t::T)=(if t.contains k then 1 else 0)+hv k T:=by
 unfold hv;rw[List.filter_cons]
 split
 ·rw[List.length_cons]; omega
 ·omega
theorem rX (p:Int→Bool):∀L:List Int,(L.map fun k=>if p k then 1 else 0).sum=(L.filter p).length
 | []=>rfl
 | a::L=>by
  rw[List.map_cons,List.sum_cons,rX p L,List.filter_cons]
  split
  ·rw[List.length_cons]; omega
  ·omega
theorem sum_add (f g:Int→Nat):∀L:List Int,(L.map fun k=>f k+g k).sum=(L.map f).sum+(L.map g).sum
 | []=>rfl
 | a::L=>by
  rw[List.map_cons,List.map_cons,List.map_cons,List.sum_cons,List.sum_cons,List.sum_cons,sum_add f g L]; omega
theorem zk:∀L:List Int,(L.map fun _=>(0:Nat)).sum=0
 | []=>rfl
 | _::L=>by rw[List.map_cons,List.sum_cons,zk L]
theorem GD (L:List Int) (hL:L.Nodup) (d:Nat):∀T:List (List Int),(∀t ∈ T,t.Sublist L∧t.length=d)→(L.map fun k=>hv k T).sum=T.length*d
 | [],_=>by
  rw[List.length_nil,Nat.zero_mul];have:L.map (fun k=>hv k [])=L.map fun _=>0:=List.map_congr_left fun k _=>rfl;rw[this,zk]
 | t::T,h=>by
  have h1:=h t List.mem_cons_self;rw[List.map_congr_left fun k _=>KX k t T,sum_add,rX,mR h1.1 hL,h1.2,GD L hL d T fun t ht=>h t (List.mem_cons_of_mem _ ht),List.length_cons,Nat.add_mul];omega
theorem Mq (es:List (Int × Int)) (x:Nat):((il es x 0 es.length).map fun k=>hv k (bg es x)).sum=(bg es x).length*(rk x 64-1) :=
 GD _ (sU _ _ _ _) _ _ fun t ht=>⟨qx _ _ _ _ t ht,qz _ _ _ _ t ht⟩
theorem LG (k:Int) (T:List (List Int)):hv k T≤T.length:=List.length_filter_le _ _
theorem Ny {es:List (Int × Int)} {k x:Nat} (hk:k<es.length):hv (k:Int) (bg es x)=(bg es x).length↔(bg (es.eraseIdx k) x).length=0:=by
 have:=A3 (x:=x) hk;omega
section
variable {α β σ ρ : Type}
end
theorem sd {es:List (Int × Int)} {i j:Nat} (h:so es i j):so es j i:=h.symm
theorem BL {n x:Nat} (h:x<2 ^ 64):IL n x=some ((tz x:Nat):Int):=by unfold IL; rw[decide_eq_true h,aS]
theorem Ig (n:Nat) (N:Int) (es:List (Int × Int)) (x:Nat) (hx:x<2 ^ 64) (hn:2<n) (hl:es.length<4611686018427387904) (hk:es.length<n):Of n N es x=some (Oo N es x):=by
 unfold Of Oo;rw[CE n N es hn hl hk,ah];unfold PC
 by_cases h:qU N es=true
 ·obtain⟨M,rfl,hM⟩:=qR h;rw[if_pos h,if_pos h];simp only[decide_true,Bool.not_true,dt,qk n x hx,ah,Int.toNat_natCast]
  by_cases h2:2 ^ M≤x
  ·have:=lh.2 h2;rw[if_pos h2,aV (by omega)]
  ·have:¬M<bl x:=fun h=>h2 (lh.1 h);rw[if_neg h2,aO (by omega)]
 ·rw[if_neg h,if_neg h]; rfl
theorem oH {x N:Nat} (h:x<2 ^ N) (hN:N≤64):x<2 ^ 64:=Nat.lt_of_lt_of_le h (Nat.pow_le_pow_right (by decide) hN)
theorem pD {x N i:Nat} (h:x<2 ^ N) (hi:x.testBit i=true):i<N:=by
 rcases Nat.lt_or_ge i N with h1|h1
 ·exact h1
 ·rw[Nat.testBit_lt_two_pow (Nat.lt_of_lt_of_le h (Nat.pow_le_pow_right (by decide) h1))] at hi; cases hi
def Ja (L:List Nat) (e:Int × Int):List Nat :=
 let L1:=L.set e.1.toNat (L.getD e.1.toNat 0 ||| 2 ^ e.2.toNat)
 L1.set e.2.toNat (L1.getD e.2.toNat 0 ||| 2 ^ e.1.toNat)
def fw (N:Nat) (es:List (Int × Int)) (L:List Nat):Prop:=L.length=N∧∀k,k<N→∃w,L[k]? = some w∧w<2 ^ 64∧∀i,w.testBit i=true↔so es k i
theorem rM {es:List (Int × Int)} {a b k i:Nat}:so (es++[((a:Int),(b:Int))]) k i↔so es k i∨(k=a∧i=b)∨(k=b∧i=a):=by
 unfold so;simp only[List.mem_append,List.mem_singleton,Prod.mk.injEq,Int.natCast_inj];constructor
 ·rintro((h|h) | (h|h))
  ·exact .inl (.inl h)
  ·exact .inr (.inl h)
  ·exact .inl (.inr h)
  ·exact .inr (.inr ⟨h.2,h.1⟩)
 ·rintro((h|h) | (h|h))
  ·exact .inl (.inl h)
  ·exact .inr (.inl h)
  ·exact .inl (.inr h)
  ·exact .inr (.inr ⟨h.2,h.1⟩)
theorem zV {N:Nat} {es:List (Int × Int)} {L:List Nat} (h:fw N es L) {a b:Nat} (hab:a<b) (hb:b<N) (hN:N≤64):fw N (es++[((a:Int),(b:Int))]) (Ja L ((a:Int),(b:Int))):=by
 obtain⟨hl,hw⟩:=h;obtain⟨wa,ha1,ha2,ha3⟩:=hw a (by omega)
 obtain⟨wb,hb1,hb2,hb3⟩:=hw b hb;have e1:L.getD a 0=wa:=by simp[List.getD,ha1]
 have hset:(L.set a (wa ||| 2 ^ b))[b]? = some wb:=by rw[List.getElem?_set_ne (by omega)]; exact hb1
 have e2:(L.set a (wa ||| 2 ^ b)).getD b 0=wb:=by simp only[List.getD,hset]; rfl
 unfold Ja;simp only[Int.toNat_natCast,e1,e2];refine⟨by simp[hl],fun k hk=>?_⟩
 by_cases hkb:k=b
 ·subst hkb;refine⟨wb ||| 2 ^ a,by rw[List.getElem?_set_self (by simp[hl]; exact hk)],oN hb2 (lj (by omega)),fun i=>?_⟩
  rw[Nat.testBit_or,Bool.or_eq_true,hb3,pb,decide_eq_true_eq,rM];constructor
  ·rintro(h|h)
   ·exact .inl h
   ·exact .inr (.inr ⟨rfl,h⟩)
  ·rintro(h|⟨h,_⟩|⟨_,h⟩)
   ·exact .inl h
   ·omega
   ·exact .inr h
 ·by_cases hka:k=a
  ·subst hka;refine⟨wa ||| 2 ^ b,by rw[List.getElem?_set_ne (by omega),List.getElem?_set_self (by simp[hl]; exact hk)],oN ha2 (lj (by omega)),fun i=>?_⟩
   rw[Nat.testBit_or,Bool.or_eq_true,ha3,pb,decide_eq_true_eq,rM];constructor
   ·rintro(h|h)
    ·exact .inl h
    ·exact .inr (.inl ⟨rfl,h⟩)
   ·rintro(h|⟨_,h⟩|⟨h,_⟩)
    ·exact .inl h
    ·exact .inr h
    ·omega
  ·obtain⟨w,h1,h2,h3⟩:=hw k hk;refine⟨w,by rw[List.getElem?_set_ne (by omega),List.getElem?_set_ne (by omega)]; exact h1,h2,fun i=>?_⟩
   rw[h3,rM];constructor
   ·exact .inl
   ·rintro(h|⟨h,_⟩|⟨h,_⟩)
    ·exact h
    ·omega
    ·omega
theorem Dm (n N:Nat) (es:List (Int × Int)) (h:Okay N es) (hn:200<n):∃L,E5 n (N:Int) es=some L∧fw N es L:=by
 have hN:=h.le;have hlen:=h.len;unfold E5;rw[decide_eq_true (show(0:Int)≤(N:Int) by omega),aS,Int.toNat_natCast,fR (by omega),aS]
 have:=zE (body:=sx n es (N:Int)) es (fun(L:List Nat) (v:Int)=>(L,v)) Ja id (fun i L=>fw N (es.take i) L) (fun L i x hx hI=>?_) (fun L _=>?_) (n:=n) (s:=List.replicate N 0) ⟨by simp,fun k hk=>⟨0,by simp[hk],by decide,fun i=>by simp[so]⟩⟩ (by omega)
 ·obtain⟨h1,h2⟩:=this;rw[h1,ah];rw[List.take_length] at h2;exact⟨_,rfl,h2⟩
 ·have hi:i<es.length:=(List.getElem?_eq_some_iff.1 hx).1;obtain⟨a,b,rfl,hab,hbN⟩:=h.mem x (List.mem_of_getElem? hx);have hstep:=zV hI hab hbN hN;have htk:es.take (i+1)=es.take i++[((a:Int),(b:Int))]:=by rw[List.take_add_one,hx]; rfl
  obtain⟨hl,hw⟩:=hI;obtain⟨wa,ha1,ha2,ha3⟩:=hw a (by omega)
  obtain⟨wb,hb1,hb2,hb3⟩:=hw b hbN;have e1:L.getD a 0=wa:=by simp[List.getD,ha1]
  have hset:(L.set a (wa ||| 2 ^ b))[b]? = some wb:=by rw[List.getElem?_set_ne (by omega)]; exact hb1
  have e2:(L.set a (wa ||| 2 ^ b)).getD b 0=wb:=by simp only[List.getD,hset]; rfl
  refine⟨?_,by rw[htk]; exact hstep⟩
  simp only[sx,Int.toNat_natCast,hx,ah,ha1,kW (show b<64 by omega),kW (show a<64 by omega),aD hi,aD (show a<N by omega),aD hbN,aS,lY ha2 (lj (show b<64 by omega)),hset,lY hb2 (lj (show a<64 by omega)),bt (show i<4611686018427387904 by omega),Ja,e1,e2]
  rw[aV (by omega),decide_eq_true (show(0:Int)≤(b:Int) by omega),aS,decide_eq_true (show(0:Int)≤(a:Int) by omega),aS]
 ·simp only[sx];rw[aO (by omega)]; rfl
theorem Rch.symm {es:List (Int × Int)} {S i j:Nat} (h:Rch es S i j) (hi:S.testBit i=true):Rch es S j i:=by
 induction h with
 | refl=>exact .refl
 | step h' ha _ ih=>exact Rch.trans (.step .refl (sd ha) (h'.mem hi)) ih
theorem Hb.of {es:List (Int × Int)} {S i w:Nat} (hw:w<2 ^ 64) (hi:w.testBit i=true) (hr:∀j,w.testBit j=true→Rch es S i j) (hc:∀j k,w.testBit j=true→so es j k→S.testBit k=true→w.testBit k=true):Hb es S i w:=by
 refine⟨hw,fun j=>⟨hr j,fun h=>?_⟩⟩
 induction h with
 | refl=>exact hi
 | step _ ha hk ih=>exact hc _ _ ih ha hk
def cnt (x:Nat):Nat:=(bitsOf x).length
theorem filter_le {p q:Nat→Bool}:∀{l:List Nat},(∀i ∈ l,p i=true→q i=true)→(l.filter p).length≤(l.filter q).length
 | [],_=>Nat.le_refl _
 | x::l,h=>by
  have ih:=filter_le (p:=p) (q:=q) (l:=l) fun i hi=>h i (by simp[hi])
  by_cases hp:p x=true
  ·rw[List.filter_cons_of_pos hp,List.filter_cons_of_pos (h x (by simp) hp)]
   simp only[List.length_cons]; omega
  ·rw[List.filter_cons_of_neg hp]
   by_cases hq:q x=true
   ·rw[List.filter_cons_of_pos hq,List.length_cons]; omega
   ·rw[List.filter_cons_of_neg hq]; exact ih
theorem filter_lt {p q:Nat→Bool} {a:Nat}:∀{l:List Nat},a ∈ l→(∀i ∈ l,p i=true→q i=true)→p a=false→q a=true→(l.filter p).length<(l.filter q).length
 | x::l,ha,h,h1,h2=>by
  by_cases hx:x=a
  ·subst hx;rw[List.filter_cons_of_neg (by rw[h1]; decide),List.filter_cons_of_pos h2,List.length_cons]
   have:=filter_le (p:=p) (q:=q) (l:=l) fun i hi=>h i (by simp[hi])
   omega
  ·have ha':a ∈ l:=by
    rcases List.mem_cons.1 ha with e|e
    ·exact absurd e.symm hx
    ·exact e
   have ih:=filter_lt ha' (fun i hi=>h i (by simp[hi])) h1 h2
   by_cases hp:p x=true
   ·rw[List.filter_cons_of_pos hp,List.filter_cons_of_pos (h x (by simp) hp)]
    simp only[List.length_cons]; omega
   ·rw[List.filter_cons_of_neg hp]
    by_cases hq:q x=true
    ·rw[List.filter_cons_of_pos hq,List.length_cons]; omega
    ·rw[List.filter_cons_of_neg hq]; exact ih
theorem cnt_lt {a b i:Nat} (hb:b<2 ^ 64) (h:∀i,a.testBit i=true→b.testBit i=true) (h1:a.testBit i=false) (h2:b.testBit i=true):cnt a<cnt b :=
 filter_lt (by have:=mu hb h2; simpa using this) (fun i _ h'=>h i h') h1 h2
theorem Ga (n N:Nat) (es:List (Int × Int)) (L:List Nat) (S p:Nat) (hL:fw N es L) (hS:S<2 ^ 64) (hp:p<2 ^ N) (hN:N≤64) (hn:64<n) :
  ∃q,bV (tP n L S) n (p,p)=some q∧q<2 ^ 64∧∀i,q.testBit i=true↔p.testBit i=true∨∃k,p.testBit k=true∧so es k i∧S.testBit i=true:=by
 have h3:=oH hp hN;have hat:∀k,p.testBit k=true→∃w,L[k]? = some w∧L.getD k 0=w∧w<2 ^ 64∧∀i,w.testBit i=true↔so es k i:=fun k hk=>by
  obtain⟨w,h2,h1,h0⟩:=hL.2 k (pD hp hk);exact⟨w,h2,by simp[List.getD,h2],h1,h0⟩
 have:=IZ (body:=tP n L S) (fun(r s:Nat)=>(r,s)) (fun s k=>s ||| (L.getD k 0 &&& S)) id (fun s=>s<2 ^ 64) p (fun r s h4 hr hb hs=>?_) (fun s _=>?_) n p p h3 (fun i hi=>hi) h3 (by have:=iw p; omega)
 ·refine⟨_,this,pL _ _ _ h3 fun k hk=>?_,fun i=>?_⟩
  ·obtain⟨w,_,h1,h0,_⟩:=hat k ((ti h3).1 hk);rw[h1]; exact iO h0
  ·rw[id_eq,yI];simp only[ti h3,Nat.testBit_and,Bool.and_eq_true];constructor
   ·rintro(h|⟨k,hk,h2,h1⟩)
    ·exact .inl h
    ·obtain⟨w,_,e,_,h0⟩:=hat k hk;rw[e] at h2;exact .inr ⟨k,hk,(h0 i).1 h2,h1⟩
   ·rintro(h|⟨k,hk,h2,h1⟩)
    ·exact .inl h
    ·obtain⟨w,_,e,_,h0⟩:=hat k hk;exact .inr ⟨k,hk,by rw[e]; exact(h0 i).2 h2,h1⟩
 ·obtain⟨w,h2,h1,h0,h5⟩:=hat _ hb;have hkN:=pD hp hb;refine⟨?_,by rw[h1]; exact oN hs (iO h0)⟩
  have hlen:=hL.1;simp only[tP,BL hr,ah,Int.toNat_natCast,h2,h1,ik h0 hS,lY hs (iO (b:=S) h0)];rw[show(!decide (r=0))=true by simp; omega,dI,aD (by omega),aS]
  rfl
 ·simp only[tP]
  rfl
theorem Hy (n N:Nat) (es:List (Int × Int)) (L:List Nat) (S i:Nat) (hok:Okay N es) (hL:fw N es L) (hS:S<2 ^ N) (hi:S.testBit i=true) (hn:64<n) :
  ∀(m p k:Nat),p<2 ^ N→p.testBit i=true→(∀j,p.testBit j=true→Rch es S i j)→64-cnt p<m→k=m→∃w,bV (yb n L S) k p=some w∧Hb es S i w:=by
 intro m;have hN:=hok.le;have hS64:=oH hS hN
 induction m with
 | zero=>intro p k _ _ _ h; exact absurd h (Nat.not_lt_zero _)
 | succ m ih =>
  rintro p k hp hpi hr hm rfl;have h1:=oH hp hN;obtain⟨q,h2,h3,h0⟩:=Ga n N es L S p hL hS64 hp hN hn;have hbody:yb n L S p=br (decide (q=p)) (some (.inr p)) (some (.inl q)):=by
   unfold yb;rw[ah,h2,ah,ah]
  by_cases hq:q=p
  ·rw[hq,decide_eq_true rfl,dI] at hbody;rw[hq] at h0;exact⟨p,bH hbody,Hb.of h1 hpi hr fun j k hj ha hk=>(h0 k).2 (.inr ⟨j,hj,ha,hk⟩)⟩
  ·rw[aO hq] at hbody;rw[bm hbody];have hsub:∀j,p.testBit j=true→q.testBit j=true:=fun j hj=>(h0 j).2 (.inl hj);have hqr:∀j,q.testBit j=true→Rch es S i j:=fun j hj=>by
    rcases(h0 j).1 hj with h|⟨k,hk,ha,hs⟩
    ·exact hr j h
    ·exact .step (hr k hk) ha hs
   have hqN:q<2 ^ N:=by
    have:∀j,q.testBit j=true→S.testBit j=true:=fun j hj=>(hqr j hj).mem hi;refine Nat.lt_pow_two_of_testBit q fun j hj=>?_;cases e:q.testBit j with
    | false=>rfl
    | true=>have:=pD hS (this j e); omega
   obtain⟨j,h4,h5⟩:∃j,p.testBit j=false∧q.testBit j=true:=by
    apply Classical.byContradiction;intro hno;refine hq (zh fun j=>⟨fun hj=>?_,hsub j⟩);cases e:p.testBit j with
    | true=>rfl
    | false=>exact absurd ⟨j,e,hj⟩ hno
   have hc:=cnt_lt h3 hsub h4 h5;have hcl:cnt q≤64:=iw q;exact ih q m hqN (hsub i hpi) hqr (by omega) rfl
theorem Iu (n N:Nat) (es:List (Int × Int)) (L:List Nat) (S:Nat) (hok:Okay N es) (hL:fw N es L) (hS:S<2 ^ N) (hn:65<n) :
  ∀(m r k:Nat) (acc:List Nat),(∀i,r.testBit i=true→S.testBit i=true)→r<2 ^ 64→cnt r<m→m≤k→acc.length+cnt r≤64→∃l,bV (yZ n L S) k (acc,r)=some (acc++l)∧Cs es S r l∧l.length≤cnt r:=by
 intro m;have hN:=hok.le
 induction m with
 | zero=>intro r k acc _ _ h; exact absurd h (Nat.not_lt_zero _)
 | succ m ih =>
  intro r k acc hsub hr hm hk hacc;obtain⟨k,rfl⟩:∃k',k=k'+1:=⟨k-1,by omega⟩
  rcases Nat.eq_zero_or_pos r with h0|h0
  ·subst h0;refine⟨[],?_,.nil,Nat.zero_le _⟩;rw[List.append_nil];exact bH (by simp only[yZ]; rfl)
  ·obtain⟨hb,_⟩:=fQ h0 hr;have hSi:=hsub _ hb;have hiN:=pD hS hSi;obtain⟨w,h1,hw⟩:=Hy n N es L S (tz r) hok hL hS hSi (by omega) n (2 ^ tz r) n (Nat.pow_lt_pow_right (by decide) hiN) (by rw[pb]; simp) (fun j hj=>by
    rw[pb,decide_eq_true_eq] at hj; subst hj; exact .refl) (by omega) rfl
   have hwi:w.testBit (tz r)=true:=(hw.2 _).2 .refl;have hlt:cnt (iJ .u64 r w)<cnt r:=cnt_lt (i:=tz r) hr (fun i hi=>by
    rw[oa hr hw.1,Bool.and_eq_true] at hi; exact hi.1) (by rw[oa hr hw.1,hwi]; simp) hb
   obtain⟨l,h2,h3,h4⟩:=ih (iJ .u64 r w) k (acc++[w]) (fun i hi=>by
    rw[oa hr hw.1,Bool.and_eq_true] at hi; exact hsub i hi.1) (JU hr hw.1) (by omega) (by omega) (by simp; omega)
   refine⟨w::l,?_,.cons h0 hr hw h3,by simp; omega⟩
   rw[bm (s':=(acc++[w],iJ .u64 r w)) ?_,h2,List.append_assoc]; rfl;simp only[yZ];rw[show(!decide (r=0))=true by simp; omega,dI,IA h0 hr,h1,ah,fR (by simp; omega),aS]
theorem ND (n N:Nat) (es:List (Int × Int)) (S:Nat) (hok:Okay N es) (hS:S<2 ^ N) (hn:200<n):∃l,PN n (N:Int) es S=some l∧Cs es S S l∧l.length≤64:=by
 obtain⟨L,hL,hA⟩:=Dm n N es hok hn;have hS64:=oH hS hok.le;have hc:cnt S≤64:=iw S;obtain⟨l,h1,h2,h3⟩:=Iu n N es L S hok hA hS (by omega) (cnt S+1) S n [] (fun i h=>h) hS64 (by omega) (by omega) (by simpa using hc)
 refine⟨l,?_,h2,by omega⟩
 unfold PN;rw[hL,ah,h1,ah]; rfl
section
variable {M S : Nat} {es : List (Int × Int)}
theorem yD {N:Int} (f:Int × Int):∀{l1 l2:List (Int × Int)} {p:Int × Int},lr N p (l1++f::l2)=true→lr N p (l1++l2)=true
 | [],l2,p,h=>by
  rw[List.nil_append,ek,Bool.and_eq_true] at h;rw[List.nil_append];cases l2 with
  | nil=>rfl
  | cons g l2 =>
   rw[ek,Bool.and_eq_true] at h ⊢;refine⟨?_,h.2.2⟩;have h1:=h.1;have h2:=h.2.1;unfold df at h1 h2 ⊢;simp only[Bool.and_eq_true,decide_eq_true_eq] at h1 h2 ⊢;omega
 | g::l1,l2,p,h=>by
  rw[List.cons_append,ek,Bool.and_eq_true] at h;rw[List.cons_append,ek,Bool.and_eq_true];exact⟨h.1,yD f h.2⟩
theorem yK {k:Nat} {e:Int × Int} (h:es[k]? = some e):es=es.take k++e::es.drop (k+1):=by
 obtain⟨hk,he⟩:=List.getElem?_eq_some_iff.1 h;have:=List.take_append_drop k es;rw[List.drop_eq_getElem_cons hk,he] at this;exact this.symm
theorem H4 {k:Nat} {e:Int × Int} (hg:qU (M:Int) es=true) (h:es[k]? = some e):qU (M:Int) (es.take k++es.drop (k+1))=true:=by
 have hs:=yK h;unfold qU at hg ⊢;rw[Bool.and_eq_true,decide_eq_true_eq] at hg ⊢;have hl:(es.take k++es.drop (k+1)).length≤es.length:=by
  have:=congrArg List.length hs;simp only[List.length_append,List.length_cons] at this ⊢;omega
 refine⟨⟨hg.1.1,hg.1.2.1,by omega⟩,yD e (hs ▸ hg.2)⟩
end
end Go.Proofs.YtookeaakpiefjaaGreatDoor
end

section
namespace Go.Proofs.YtookeaakpiefjaaGreatDoor
open Go Go.Ab Go.Ab.W Go.Ab.T30
theorem HJ {V:List Nat} (hV:V.Nodup) {T:List (Nat × Nat)} (ht:∀e ∈ T,e.1 ∈ V∧e.2 ∈ V) {v:Nat} (hc:∀y ∈ V,Cn T v y):V.length≤T.length+1:=by
 have h1:=(fj hV ht).1;have h2:=(mc hV ht).2 fun x hx y hy=>(hc x hx).symm.trans (hc y hy);have h3:=oq T fun x=>x;omega
section
variable {M : Nat} {es : List (Int × Int)} {x A B : Nat} {k : Int} {t u v : List Int}
structure Two (M:Nat) (es:List (Int × Int)) (x A B:Nat) (k:Int):Prop where
 ok:Okay M es
 hx:x<2 ^ 64
 hA:A<2 ^ 64
 hB:B<2 ^ 64
 sub:∀j,A.testBit j=true→x.testBit j=true
 rest:∀j,B.testBit j=(x.testBit j && !A.testBit j)
 same:∀i,eG es x i=true→i≠k→A.testBit (eg es i).1=A.testBit (eg es i).2
 ki:eG es x k=true
 kd:A.testBit (eg es k).1 = !A.testBit (eg es k).2
theorem Two.swap (h:Two M es x A B k):Two M es x B A k where
 ok:=h.ok
 hx:=h.hx
 hA:=h.hB
 hB:=h.hA
 sub:=fun j hj=>by rw[h.rest,Bool.and_eq_true] at hj; exact hj.1
 rest:=fun j=>by
  rw[h.rest];have:=h.sub j;cases e:A.testBit j<;>cases e':x.testBit j<;>simp_all
 same:=fun i hi hk=>by
  obtain⟨_,h2,h3⟩:=eD hi;rw[h.rest,h.rest,h2,h3,h.same i hi hk]
 ki:=h.ki
 kd:=by
  obtain⟨_,h2,h3⟩:=eD h.ki;rw[h.rest,h.rest,h2,h3,h.kd];cases A.testBit (eg es k).2<;>rfl
theorem Two.QP (h:Two M es x A B k) {i:Int}:eG es A i=true↔eG es x i=true∧i≠k∧A.testBit (eg es i).1=true:=by
 constructor
 ·intro hi;obtain⟨h1,h2,h3⟩:=eD hi;refine⟨?_,?_,h2⟩
  ·unfold eG;rw[decide_eq_true (show 0≤i∧i<(es.length:Int) from h1),h.sub _ h2,h.sub _ h3]; rfl
  ·rintro rfl;have:=h.kd;rw[h2,h3] at this; cases this
 ·rintro⟨hi,hk,ha⟩;have hs:=h.same i hi hk;obtain⟨h1,h2,h3⟩:=eD hi;unfold eG;rw[decide_eq_true (show 0≤i∧i<(es.length:Int) from h1),ha,←hs,ha]; rfl
theorem Two.split (h:Two M es x A B k) {i:Int} (hi:eG es x i=true) (hk:i≠k):eG es A i=true∨eG es B i=true:=by
 cases e:A.testBit (eg es i).1 with
 | true=>exact .inl (h.QP.2 ⟨hi,hk,e⟩)
 | false =>
  refine .inr (h.swap.QP.2 ⟨hi,hk,?_⟩);rw[h.rest,(eD hi).2.1,e]; rfl
theorem Two.ends (h:Two M es x A B k):∃a b,(eg es k=(a,b)∨eg es k=(b,a))∧A.testBit a=true∧A.testBit b=false∧x.testBit a=true∧x.testBit b=true:=by
 obtain⟨_,h2,h3⟩:=eD h.ki;have h1:=h.kd;cases e:A.testBit (eg es k).2 with
 | true=>rw[e] at h1; exact⟨_,_,.inr rfl,e,h1,h3,h2⟩
 | false=>rw[e] at h1; exact⟨_,_,.inl rfl,h1,e,h2,h3⟩
theorem Two.IP (h:Two M es x A B k) (hT:Tr M es x t) {v j:Nat} (hv:A.testBit v=true) (hj:A.testBit j=true):Cn ((t.filter fun i=>eG es A i).map (eg es)) v j:=by
 obtain⟨a,b,he,ha,hb,_,_⟩:=h.ends;have hc:=hT.cn (h.sub v hv) (h.sub j hj);have key:=hc.closed (Q:=fun y=>(A.testBit y=true→Cn ((t.filter fun i=>eG es A i).map (eg es)) v y)∧(A.testBit y=false→Cn ((t.filter fun i=>eG es A i).map (eg es)) v a)) ⟨fun _=>.refl,fun e=>by rw[hv] at e; cases e⟩ fun y z hy hn=>by
  obtain⟨i,hi,hyz⟩:∃i ∈ t,eg es i=(y,z)∨eg es i=(z,y):=by
   rcases hn with hn|hn
   ·obtain⟨i,hi,e⟩:=List.mem_map.1 hn; exact⟨i,hi,.inl e⟩
   ·obtain⟨i,hi,e⟩:=List.mem_map.1 hn; exact⟨i,hi,.inr e⟩
  have hin:=hT.eG i hi
  by_cases hk:i=k
  ·subst hk;have hcase:(y=a∧z=b)∨(y=b∧z=a):=by
    rcases he with he|he<;>rw[he] at hyz<;>rcases hyz with e|e<;>cases e<;>simp
   rcases hcase with⟨rfl,rfl⟩|⟨rfl,rfl⟩
   ·exact⟨fun e=>(by rw[hb] at e; cases e),fun _=>hy.1 ha⟩
   ·exact⟨fun _=>hy.2 hb,fun e=>by rw[ha] at e; cases e⟩
  ·have hs:=h.same i hin hk;have hyz':A.testBit y=A.testBit z:=by
    rcases hyz with e|e
    ·rw[e] at hs; exact hs
    ·rw[e] at hs; exact hs.symm
   refine⟨fun hz=>?_,fun hz=>hy.2 (hyz'.trans hz)⟩;have hyA:=hyz'.trans hz;have hiA:eG es A i=true:=h.QP.2 ⟨hin,hk,by
    rcases hyz with e|e
    ·rw[e]; exact hyA
    ·rw[e]; exact hz⟩
   have hm:i ∈ t.filter fun i=>eG es A i:=List.mem_filter.2 ⟨hi,hiA⟩;refine(hy.1 hyA).trans (Cn.one ?_);rcases hyz with e|e
   ·exact .inl (List.mem_map.2 ⟨i,hm,e⟩)
   ·exact .inr (List.mem_map.2 ⟨i,hm,e⟩)
 exact key.1 hj
theorem Two.pos (h:Two M es x A B k):A≠0∧B≠0:=by
 obtain⟨a,b,_,ha,hb,_,hxb⟩:=h.ends;refine⟨fun e=>(by subst e; rw[Nat.zero_testBit] at ha; cases ha),fun e=>?_⟩
 have:=h.rest b;rw[e,hxb,hb,Nat.zero_testBit] at this; cases this
theorem J5 {l:List Int} (hO:Okay M es) (hl:∀i ∈ l,eG es A i=true):∀e ∈ l.map (eg es),e.1 ∈ dH A 64∧e.2 ∈ dH A 64:=rz hO hl
theorem Two.low (h:Two M es x A B k) (hT:Tr M es x t):rk A 64≤(t.filter fun i=>eG es A i).length+1:=by
 have htz:=fQ (Nat.pos_of_ne_zero h.pos.1) h.hA;have:=HJ (ew A) (T:=(t.filter fun i=>eG es A i).map (eg es)) (J5 h.ok fun i hi=>(List.mem_filter.1 hi).2) (v:=tz A) fun y hy=>h.IP hT htz.1 (cp.1 hy).2;rw[List.length_map] at this;exact this
theorem O4 (hO:Okay M es) (hx:x<2 ^ 64) (h0:x≠0) (h:PM es x t=true):Tr M es x t:=by
 obtain⟨t1,t2,t3,t4⟩:=KR h;exact⟨hO,hx,h0,t1,t2,t3,t4⟩
theorem vR {i:Int} (hi:eG es x i=true):i ∈ il es x 0 es.length:=by
 obtain⟨h1,_⟩:=eD hi;obtain⟨j,rfl⟩:=Int.eq_ofNat_of_zero_le h1.1;unfold il;refine List.mem_map.2 ⟨j,List.mem_filter.2 ⟨?_,hi⟩,rfl⟩;rw[List.mem_range'_1];have:=h1.2;omega
end
section
variable {σ ρ : Type}
end
def m2 (a b:Nat):Nat:=if b=0 then(if a=0 then 0 else 1) else 2
section
variable {n : Nat} {k : Int} {a b : Nat}
theorem K6 (hn:40<n) (s:Bool) {v:Nat} (hs:s=true→v≠0):kO n s [v,0,0,0,0,0,0,0]=some (s,ul v):=by
 obtain⟨m,rfl⟩:∃m,n=m+20:=⟨n-20,by omega⟩
 by_cases h:v=0
 ·subst h;cases s with
  | false=>rfl
  | true=>exact absurd rfl (hs rfl)
 ·have st:eW (m+20) [v,0,0,0,0,0,0,0] 1=some (.inr 1):=by
   show ob (ob (some (decide (v=0))) fun v66=>some v66) _=_
   rw[decide_eq_false h]; rfl
  have s8:eW (m+20) [v,0,0,0,0,0,0,0] 8=some (.inl 7):=rfl;have s7:eW (m+20) [v,0,0,0,0,0,0,0] 7=some (.inl 6):=rfl;have s6:eW (m+20) [v,0,0,0,0,0,0,0] 6=some (.inl 5):=rfl;have s5:eW (m+20) [v,0,0,0,0,0,0,0] 5=some (.inl 4):=rfl;have s4:eW (m+20) [v,0,0,0,0,0,0,0] 4=some (.inl 3):=rfl;have s3:eW (m+20) [v,0,0,0,0,0,0,0] 3=some (.inl 2):=rfl;have s2:eW (m+20) [v,0,0,0,0,0,0,0] 2=some (.inl 1):=rfl;unfold kO;rw[show(([v,0,0,0,0,0,0,0]:List Nat).length:Int)=8 from rfl,bm s8,bm s7,bm s6,bm s5,bm s4,bm s3,bm s2,bH st,ah,sK h]
  cases s<;>rfl
end
theorem Lb (n a:Nat):PH n a 0 0 0 0 0 0 0=some (false,a,0,0,0,0,0,0,0):=rfl
theorem Nu (n x1 x2 x3:Nat) (l4:List (Nat × Nat)) (hn:12<n):∃N es,PK n x1 x2 x3 l4=some (N,es)∧qU N es=true∧N≤12:=by
 unfold PK;have w1:IntKind.wrap .i64 ((x1%4:Nat):Int)=((x1%4:Nat):Int):=aK (by omega) (by omega)
 have w2:IntKind.wrap .i64 ((x2%3:Nat):Int)=((x2%3:Nat):Int):=aK (by omega) (by omega)
 have w3:IntKind.wrap .i64 (1+((x1%4:Nat):Int))=1+((x1%4:Nat):Int):=aK (by omega) (by omega)
 have w4:IntKind.wrap .i64 (1+((x2%3:Nat):Int))=1+((x2%3:Nat):Int):=aK (by omega) (by omega)
 rw[w1,w2,w3,w4,ah];have hN:∀a b:Nat,a<4→b<3→1≤(1+(a:Int))*(1+(b:Int))∧(1+(a:Int))*(1+(b:Int))≤12:=by
  intro a b ha hb;have h1:a=0∨a=1∨a=2∨a=3:=by omega
  have h2:b=0∨b=1∨b=2:=by omega
  rcases h1 with rfl|rfl|rfl|rfl<;>rcases h2 with rfl|rfl|rfl<;>decide
 have hN':=hN (x1%4) (x2%3) (Nat.mod_lt _ (by omega)) (Nat.mod_lt _ (by omega))
 rw[aK (by omega) (by omega)]
 obtain⟨r,hr,hl,hu⟩:=Gp n ((1+((x1%4:Nat):Int))*(1+((x2%3:Nat):Int))) (1+((x1%4:Nat):Int)) x3 l4 hN' (by omega) n hn hn
 refine⟨_,r,by rw[hr,ah],?_⟩
 refine⟨?_,hN'.2⟩;simp only[qU,Bool.and_eq_true,decide_eq_true_eq];exact⟨⟨hN'.1,by omega,hl⟩,hu⟩
theorem CA {n a b:Nat} (hn:18446744073709551616<n) (ha:a<18446744073709551616) (hb:b<18446744073709551616) (hb0:b≠0) {s t:Bool} {l k:List Nat} (h:Lg (a:Int) s l) (h':Lg (b:Int) t k) :
  ∃s' l' t' k',KL n s l t k=some (s',l',t',k')∧Lg ((a/Nat.gcd a b:Nat):Int) s' l'∧Lg ((b/Nat.gcd a b:Nat):Int) t' k':=by
 have hg0:Nat.gcd a b≠0:=fun e=>hb0 (Nat.eq_zero_of_gcd_eq_zero_right e);have hgb:Nat.gcd a b≤b:=Nat.le_of_dvd (by omega) (Nat.gcd_dvd_right a b)
 obtain⟨rfl,rfl⟩:=h.inj (jw (by omega))
 obtain⟨rfl,rfl⟩:=h'.inj (jw (by omega))
 have ea:((a/Nat.gcd a b:Nat):Int)*((Nat.gcd a b:Nat):Int)=(a:Int):=by rw[←Int.natCast_mul,Nat.div_mul_cancel (Nat.gcd_dvd_left a b)]
 have eb:((b/Nat.gcd a b:Nat):Int)*((Nat.gcd a b:Nat):Int)=(b:Int):=by rw[←Int.natCast_mul,Nat.div_mul_cancel (Nat.gcd_dvd_right a b)]
 have hla:=mX a;have hlb:=mX b;rw[←ea] at h;rw[←eb] at h';obtain⟨u1,m1,v1,o1,f1,f2⟩:=xw (n:=n) h (jw (v:=Nat.gcd a b) (by omega)) (by omega) (by omega) (by omega) (by omega) (by omega)
 obtain⟨u2,m2,v2,o2,f3,f4⟩:=xw (n:=n) h' (jw (v:=Nat.gcd a b) (by omega)) (by omega) (by omega) (by omega) (by omega) (by omega)
 have hu2:=f4.vC;rw[decide_eq_false (Int.not_lt.2 (Int.natCast_nonneg _))] at hu2;subst hu2;refine⟨u1,m1,false,m2,?_,f2,f4⟩;unfold KL Bi;rw[Jc (by omega) b a n (by omega) (by omega) (by omega),ah,ah]
 dsimp only
 rw[f1,ah]
 dsimp only
 rw[f3,ah]
 rfl
theorem OS:(u7 11 200).all (fun x=>Nat.blt x 18446744073709551616)=true:=by decide +kernel
theorem Hm {e k:Nat} (he:e≤200) (hk:k≤11):cb e k<18446744073709551616:=Nat.lt_of_le_of_lt (Da he k) (GS OS hk)
section
variable {M : Nat} {es : List (Int × Int)} {x n : Nat} {k : Int}
theorem Dx (es:List (Int × Int)) (x:Nat):(il es x 0 es.length).length≤es.length:=by
 unfold il;rw[List.length_map];have h2:=List.length_filter_le (fun(k:Nat)=>eG es x (k:Int)) (List.range' 0 es.length);rw[List.length_range'] at h2;exact h2
theorem qH (hl:es.length≤200) (hr:rk x 64≤12):(bg es x).length<18446744073709551616 :=
 Nat.lt_of_le_of_lt (F1 es _ _ _) (Hm (Nat.le_trans (Dx es x) hl) (by omega))
theorem Lv (hO:Okay M es) (hx:x<2 ^ 64) (h0:x≠0) (hr:rk x 64≤12) (hn:300<n) (x1:Int):∃t q,E7 n x1 es x [] []=some (t,q)∧Lg ((bg es x).length:Int) t q:=by
 have hw:wl es x [] 0 es.length = []:=LV es x 0 es.length;have ha:bX (fun x=>x) (wl es x [] 0 es.length)=true:=by rw[hw]; rfl
 have hp:=Ie (W:=[]) hO hx (show 0<x by omega) ha
 rw[hw,List.length_nil] at hp;obtain⟨t,q,h1,h2⟩:=(DA (W:=[]) (O:=[]) hO hx (show 0<x by omega) hn x1 (fun k hk=>by
  rw[xj];exact Hm (Nat.le_trans (Dx es x) hO.len) (by omega))).2 ha
 refine⟨t,q,h1,?_⟩;have hrW:rW es x []=fun x=>x:=by unfold rW; rw[hw]; rfl
 rw[xj,hrW,show(pW es x []).length=rk x 64-1 by omega] at h2
 exact h2
theorem LK (hok:qU (M:Int) es=true) (h0:x≠0) (hM:x<2 ^ M):Om (M:Int) es x=0:=by
 unfold Om;rw[if_pos hok,if_neg];rintro(h|h)
 ·exact h0 h
 ·rw[Int.toNat_natCast] at h; omega
theorem Jg (hok:qU (M:Int) es=true) (hO:Okay M es) (h0:x≠0) (hM:x<2 ^ M) (hr:rk x 64≤12) (hn:300<n):LJ n (M:Int) es x=some ((bg es x).length,0,0,0,0,0,0,0,0):=by
 have hx:=oH hM hO.le;have hl:=hO.len;obtain⟨t,q,q1,q2⟩:=Lv hO hx h0 hr hn (M:Int);unfold LJ;rw[AK n (M:Int) es x hx (by omega) (by omega) (by omega),ah,LK hok h0 hM,decide_eq_true rfl,Bool.not_true,dt,q1,ah]
 dsimp only
 rw[mT (by omega) (qH hl hr) q2,ah]
theorem I7 (hok:qU (M:Int) es=true) (hO:Okay M es) (h0:x≠0) (hM:x<2 ^ M) (hr:rk x 64≤12) (hn:18446744073709551616<n) (hin:eG es x k=true) :
  ((bg es x).length=0→Og n (M:Int) es x k=some (0,0,0,0,0,0,0,0,0,0,0,0,0,0,0,0,7)) ∧
  ((bg es x).length≠0→Og n (M:Int) es x k=some (hv k (bg es x)/Nat.gcd (hv k (bg es x)) (bg es x).length,0,0,0,0,0,0,0,(bg es x).length/Nat.gcd (hv k (bg es x)) (bg es x).length,0,0,0,0,0,0,0,0)):=by
 have hx:=oH hM hO.le;have hl:=hO.len;obtain⟨t,q,q1,q2⟩:=Lv hO hx h0 hr (show 300<n by omega) (M:Int)
 have htest:(br (decide (k<0)) (some true) (br (decide ((es.length:Int)≤k)) (some true) (gd (cg k es.length) (ob (es[k.toNat]?) fun(x53,x54)=>ob (J6 n x x53 x54) fun r57=>some (!r57)))))=some false:=by
  obtain⟨hv1,hv2,hv3⟩:=eD hin;obtain⟨a,b,c1,c2,c3,c4,_,c5⟩:=jr hO hv1;have h1:=hv1.1;have h2:=hv1.2;rw[c2] at hv2 hv3;rw[aO (by omega),aO (by omega),c5,aS,c1,ah]
  dsimp only
  rw[rV n x a b hx (by omega) c4,ah,hv2,hv3]; rfl
 unfold Og;rw[AK n (M:Int) es x hx (by omega) (by omega) (by omega),ah,LK hok h0 hM,decide_eq_true rfl,Bool.not_true,dt,htest,ah,dt,q1,ah]
 dsimp only
 obtain⟨sg,s1,s2,s3⟩:=vH (n:=n) q2;rw[s1,ah];refine⟨fun hz=>by rw[aV (s3.2 (by omega))],fun hz=>?_⟩
 rw[aO (fun e=>hz (by have:=s3.1 e; omega))]
 obtain⟨hv1,_,_⟩:=eD hin;obtain⟨kn,rfl⟩:=Int.eq_ofNat_of_zero_le hv1.1;have hkn:kn<es.length:=by have:=hv1.2; omega
 obtain⟨a,b,c1,c2,c3,c4,_,c5⟩:=jr hO hv1;have hw1:=Nr hin hkn;have haj:bX (fun x=>x) (wl es x (bR ([]:List (Int × Bool)) (kn:Int) true) 0 es.length)=true:=by
  rw[hw1,c2];have:(a == b)=false:=by simp; omega
  simp[bX]; omega
 have hp:=Ie (W:=bR ([]:List (Int × Bool)) (kn:Int) true) hO hx (show 0<x by omega) haj
 rw[hw1,List.length_singleton] at hp;obtain⟨t2,p2,e1,e2⟩:=(DA (W:=bR ([]:List (Int × Bool)) (kn:Int) true) (O:=[]) hO hx (show 0<x by omega) (show 300<n by omega) (M:Int) (fun k hk=>by
  rw[xj];exact Hm (Nat.le_trans (Dx es x) hl) (by omega))).2 haj
 have hrW:rW es x (bR ([]:List (Int × Bool)) (kn:Int) true)=bh (fun x=>x) (eg es (kn:Int)):=by unfold rW; rw[hw1]; rfl
 have hmem:(kn:Int) ∈ il es x 0 es.length:=vR hin;have hne:(fun x:Nat=>x) (eg es (kn:Int)).1≠(fun x:Nat=>x) (eg es (kn:Int)).2:=by rw[c2]; show a≠b; omega
 have hh:=B3 es (kn:Int) (il es x 0 es.length) (rk x 64-2) (fun x=>x) (sU _ _ _ _) hmem hne;rw[hrW,xj,show(pW es x (bR ([]:List (Int × Bool)) (kn:Int) true)).length=rk x 64-2 by omega,←hh,show rk x 64-2+1=rk x 64-1 by omega] at e2
 have e2':Lg ((hv (kn:Int) (bg es x):Nat):Int) t2 p2:=e2;have hvle:hv (kn:Int) (bg es x)≤(bg es x).length:=List.length_filter_le _ _;have hT:=qH hl hr;obtain⟨s',l',t',k',f1,f2,f3⟩:=CA (n:=n) hn (show hv (kn:Int) (bg es x)<18446744073709551616 by omega) hT hz e2' q2
 have d1:=Nat.div_le_self (hv (kn:Int) (bg es x)) (Nat.gcd (hv (kn:Int) (bg es x)) (bg es x).length);have d2:=Nat.div_le_self (bg es x).length (Nat.gcd (hv (kn:Int) (bg es x)) (bg es x).length);rw[e1,ah]
 dsimp only
 rw[f1,ah]
 dsimp only
 unfold Lq;rw[mT (by omega) (by omega) f2,ah]
 dsimp only
 rw[mT (by omega) (by omega) f3]; rfl
theorem qP (hn:40<n) {v:Nat} (hv:v<18446744073709551616):Kz n v 0 0 0 0 0 0 0=some (false,ul v)∧Lg (v:Int) false (ul v):=by
 refine⟨?_,jw hv⟩;unfold Kz;rw[Lb,ah]
 dsimp only
 rw[show mj ((([]:List Nat)++[v,0,0,0,0,0,0,0]).length)=true from rfl,aS]
 show ob (kO n false [v,0,0,0,0,0,0,0]) _=_
 rw[K6 (by omega) false (fun h=>by cases h),ah]
theorem Pa (hn:18446744073709551616<n) {a b:Nat} (ha:a<18446744073709551616) (hb:b<18446744073709551616) (hb0:b≠0):PW n a 0 0 0 0 0 0 0 b 0 0 0 0 0 0 0=some (a/Nat.gcd a b,0,0,0,0,0,0,0,b/Nat.gcd a b,0,0,0,0,0,0,0,0):=by
 obtain⟨l1,l2⟩:=qP (n:=n) (by omega) ha
 obtain⟨l3,l4⟩:=qP (n:=n) (by omega) hb
 obtain⟨s',l',t',k',f1,f2,f3⟩:=CA (n:=n) hn ha hb hb0 l2 l4;have d1:=Nat.div_le_self a (Nat.gcd a b);have d2:=Nat.div_le_self b (Nat.gcd a b);unfold PW;rw[decide_eq_false hb0]
 show br false _ _=_
 rw[dt,l1,ah]
 dsimp only
 rw[l3,ah]
 dsimp only
 rw[f1,ah]
 dsimp only
 unfold Lq;rw[mT (by omega) (by omega) f2,ah]
 dsimp only
 rw[mT (by omega) (by omega) f3]; rfl
end
theorem qj (es:List (Int × Int)):∀(L:List Int) (d:Nat) (r:Nat→Nat),d≤iI r (L.map (eg es))→gw es L d r≠[]
 | L,0,r,_=>by
  have:gw es L 0 r = [[]]:=by cases L<;>rfl
  rw[this]; simp
 | [],d+1,r,h=>by simp[iI] at h
 | k::L,d+1,r,h=>by
  rw[List.map_cons] at h;simp only[iI] at h;simp only[gw]
  by_cases hr:r (eg es k).1=r (eg es k).2
  ·rw[if_pos hr] at h ⊢;rw[List.nil_append];rw[e6 hr,Nat.zero_add] at h;exact qj es L (d+1) r h
  ·rw[if_neg hr] at h ⊢;intro e;have h1:=(List.append_eq_nil_iff.1 e).1;exact qj es L d _ (by omega) (List.map_eq_nil_iff.1 h1)
section
variable {M : Nat} {es : List (Int × Int)} {x : Nat}
def Cv (es:List (Int × Int)) (x:Nat):List (Nat × Nat):=(il es x 0 es.length).map (eg es)
theorem vk (hO:Okay M es):∀e ∈ Cv es x,e.1 ∈ dH x 64∧e.2 ∈ dH x 64:=rz hO fun _ hi=>BP hi
theorem mK (hO:Okay M es) (_:x<2 ^ 64) (_:x≠0) (hc:∀y,x.testBit y=true→Cn (Cv es x) (tz x) y):(bg es x).length≠0:=by
 have h1:=(fj (ew x) (vk (x:=x) hO)).1;have h2:=(mc (ew x) (vk (x:=x) hO)).2 fun a ha b hb=>(hc a (cp.1 ha).2).symm.trans (hc b (cp.1 hb).2);have h3:(dH x 64).length=rk x 64:=rfl;intro e;exact qj es (il es x 0 es.length) (rk x 64-1) (fun x=>x) (by unfold Cv at h1 h2; omega) (List.length_eq_zero_iff.1 e)
theorem gj (hO:Okay M es) (hx:x<2 ^ 64) (h0:x≠0) (hT:(bg es x).length≠0) {a b:Nat} (ha:x.testBit a=true) (hb:x.testBit b=true):Cn (Cv es x) a b:=by
 obtain⟨t,ht⟩:∃t,t ∈ bg es x:=List.exists_mem_of_length_pos (by omega)
 have hTr:=O4 hO hx h0 (HU hx h0 ht);refine(hTr.cn ha hb).mono fun e he=>?_;obtain⟨i,hi,rfl⟩:=List.mem_map.1 he;exact List.mem_map.2 ⟨i,vR (hTr.eG i hi),rfl⟩
theorem Ng (_:Okay M es) {a b:Nat} (h:so es a b) (ha:x.testBit a=true) (hb:x.testBit b=true):Nb (Cv es x) a b:=by
 have key:∀{a b:Nat},((a:Int),(b:Int)) ∈ es→x.testBit a=true→x.testBit b=true→(a,b) ∈ Cv es x:=by
  intro a b h ha hb;obtain⟨i,hi⟩:=List.mem_iff_getElem?.1 h;have hil:=(List.getElem?_eq_some_iff.1 hi).1;have he:eg es (i:Int)=(a,b):=by
   unfold eg;rw[Int.toNat_natCast,hi]; rfl
  refine List.mem_map.2 ⟨(i:Int),vR ?_,he⟩;unfold eG;rw[he,ha,hb,decide_eq_true ⟨by omega,by omega⟩]; rfl
 rcases h with h|h
 ·exact .inl (key h ha hb)
 ·exact .inr (key h hb ha)
theorem H8 (hO:Okay M es) {a b:Nat} (h:Nb (Cv es x) a b):so es a b∧x.testBit a=true∧x.testBit b=true:=by
 have key:∀{a b:Nat},(a,b) ∈ Cv es x→((a:Int),(b:Int)) ∈ es∧x.testBit a=true∧x.testBit b=true:=by
  intro a b h;obtain⟨i,hi,he⟩:=List.mem_map.1 h;obtain⟨h1,h2,h3⟩:=eD (BP hi);obtain⟨p,q,e1,e2,_⟩:=jr hO h1;rw[e2] at he;cases he;rw[e2] at h2 h3;exact⟨List.mem_of_getElem? e1,h2,h3⟩
 rcases h with h|h
 ·have:=key h; exact⟨.inl this.1,this.2⟩
 ·have:=key h; exact⟨.inr this.1,this.2.2,this.2.1⟩
theorem HG (hO:Okay M es) {a b:Nat} (ha:x.testBit a=true) (h:Rch es x a b):Cn (Cv es x) a b:=by
 induction h with
 | refl=>exact .refl
 | step h' hx hk ih=>exact .step ih (Ng hO hx (h'.mem ha) hk)
theorem BQ (hO:Okay M es) {a b:Nat} (h:Cn (Cv es x) a b):Rch es x a b:=by
 induction h with
 | refl=>exact .refl
 | step _ hn ih=>exact .step ih (H8 hO hn).1 (H8 hO hn).2.2
theorem ET (hO:Okay M es) (hx:x<2 ^ 64) (h0:x≠0) {L:List Nat} (hL:Cs es x x L):L.length=1↔(bg es x).length≠0:=by
 have htz:=fQ (Nat.pos_of_ne_zero h0) hx;cases hL with
 | nil=>exact absurd rfl h0
 | cons g0 gr gw' hrest =>
  rename_i A L;have hw:=gw'.2;constructor
  ·intro h;have hL0:L = []:=by
    rw[List.length_cons] at h;exact List.length_eq_zero_iff.1 (by omega)
   subst hL0;have hz:iJ .u64 x A=0:=by
    generalize iJ .u64 x A=r at hrest;cases hrest; rfl
   refine mK hO hx h0 fun y hy=>?_;have:(iJ .u64 x A).testBit y=false:=by rw[hz,Nat.zero_testBit]
   rw[oa hx gw'.1,hy,Bool.true_and,Bool.not_eq_false'] at this;exact HG hO htz.1 ((hw y).1 this)
  ·intro h;have hz:iJ .u64 x A=0:=DV.2 fun i=>by
    rw[oa hx gw'.1];cases e:x.testBit i with
    | false=>rfl
    | true =>
     rw[(hw i).2 (BQ hO (gj hO hx h0 h htz.1 e))]; rfl
   rw[hz] at hrest;cases hrest with
   | cons c0=>omega
   | nil=>rfl
theorem A5 (hO:Okay M es) (hx:x<2 ^ 64) (h0:x≠0) {k:Nat} (hO':Okay M (es.eraseIdx k)) (hin:eG es x (k:Int)=true) (hT:(bg es x).length≠0) :
  (bg (es.eraseIdx k) x).length=0↔¬Rch (es.eraseIdx k) x (eg es (k:Int)).1 (eg es (k:Int)).2:=by
 obtain⟨h1,h2,h3⟩:=eD hin;have htz:=fQ (Nat.pos_of_ne_zero h0) hx;constructor
 ·intro h hr;refine mK hO' hx h0 (fun y hy=>?_) h;have hc:=BQ hO (gj hO hx h0 hT htz.1 hy);have:Rch (es.eraseIdx k) x (tz x) y:=by
   clear hy
   induction hc with
   | refl=>exact .refl
   | step h' ha hk ih =>
    rename_i j l
    by_cases hm:so (es.eraseIdx k) j l
    ·exact .step ih hm hk
    ·
     obtain⟨a,b,e1,e2,_⟩:=jr hO h1;rw[Int.toNat_natCast] at e1;have hmem:∀p:Int × Int,p ∈ es→p ∉ es.eraseIdx k→p=((a:Int),(b:Int)):=fun p hp hq=>by
      obtain⟨i,hi⟩:=List.mem_iff_getElem?.1 hp
      by_cases e:i=k
      ·rw[e,e1] at hi;exact(Option.some.inj hi).symm
      ·exact absurd (List.mem_eraseIdx_iff_getElem?.2 ⟨i,e,hi⟩) hq
     rw[e2] at hr h2 h3;rcases ha with ha|ha
     ·have:=hmem _ ha fun h=>hm (.inl h);have e3:j=a:=by have:=congrArg Prod.fst this; simp at this; omega
      have e4:l=b:=by have:=congrArg Prod.snd this; simp at this; omega
      subst e3 e4;exact ih.trans hr
     ·have:=hmem _ ha fun h=>hm (.inr h);have e3:l=a:=by have:=congrArg Prod.fst this; simp at this; omega
      have e4:j=b:=by have:=congrArg Prod.snd this; simp at this; omega
      subst e3 e4;exact ih.trans (hr.symm h2)
  exact HG hO' htz.1 this
 ·intro h;refine Decidable.byContradiction fun hne=>h ?_;exact BQ hO' (gj hO' hx h0 hne h2 h3)
end
end Go.Proofs.YtookeaakpiefjaaGreatDoor
end

section
namespace Go.Proofs.YtookeaakpiefjaaGreatDoor
open Go Go.Ab Go.Ab.W
abbrev Sh:=Nat × Nat × Nat × Nat × Nat × Nat × Nat × Nat × Nat × Nat × Nat × Nat × Nat × Nat × Nat × Nat
def sh (p:Nat × Nat):Sh:=(p.1,0,0,0,0,0,0,0,p.2,0,0,0,0,0,0,0)
def fq (T h:Nat):Nat × Nat:=(h/Nat.gcd h T,T/Nat.gcd h T)
theorem Bd {a b c d:Nat} (hb:b≠0) (hd:d≠0) (h:a*d=c*b):a/Nat.gcd a b=c/Nat.gcd c d∧b/Nat.gcd a b=d/Nat.gcd c d:=by
 have g0:0<Nat.gcd a b:=Nat.gcd_pos_of_pos_right a (Nat.pos_of_ne_zero hb);have k0:0<Nat.gcd c d:=Nat.gcd_pos_of_pos_right c (Nat.pos_of_ne_zero hd);have c1:=Nat.coprime_div_gcd_div_gcd g0;have c2:=Nat.coprime_div_gcd_div_gcd k0;have ea:=Nat.div_mul_cancel (Nat.gcd_dvd_left a b);have eb:=Nat.div_mul_cancel (Nat.gcd_dvd_right a b);have ec:=Nat.div_mul_cancel (Nat.gcd_dvd_left c d);have ed:=Nat.div_mul_cancel (Nat.gcd_dvd_right c d);generalize Nat.gcd a b=g at *;generalize Nat.gcd c d=k at *;generalize a/g=a' at *;generalize b/g=b' at *;generalize c/k=c' at *;generalize d/k=d' at *;subst ea eb ec ed;have e:a'*d'=c'*b':=by
  have h2:(g*k)*(a'*d')=(g*k)*(c'*b'):=by
   have e1:(g*k)*(a'*d')=a'*g*(d'*k):=by simp only[Nat.mul_comm,Nat.mul_left_comm]
   have e2:(g*k)*(c'*b')=c'*k*(b'*g):=by simp only[Nat.mul_comm,Nat.mul_left_comm]
   rw[e1,e2,h]
  exact Nat.eq_of_mul_eq_mul_left (Nat.mul_pos g0 k0) h2
 have hb':0<b':=Nat.pos_of_ne_zero fun e=>hb (by rw[e,Nat.zero_mul])
 have d1:b'∣d':=c1.symm.dvd_of_dvd_mul_left (by rw[e]; exact Nat.dvd_mul_left _ _)
 have d2:d'∣b':=c2.symm.dvd_of_dvd_mul_left (by rw[←e]; exact Nat.dvd_mul_left _ _)
 have e3:b'=d':=Nat.dvd_antisymm d1 d2;subst e3;exact⟨Nat.eq_of_mul_eq_mul_right hb' e,rfl⟩
section
variable {n : Nat}
theorem G8 (hn:40<n) {a b:Nat} (ha:a<18446744073709551616) (hb:b<18446744073709551616):vw n a 0 0 0 0 0 0 0 b 0 0 0 0 0 0 0=some (false,ul a,false,ul b):=by
 unfold vw;rw[(qP hn ha).1,ah]
 dsimp only
 rw[(qP hn hb).1,ah]
theorem MG (hn:18446744073709551616<n) {a b:Nat} (ha:a<18446744073709551616) (hb:b<18446744073709551616) (hb0:b≠0) (hg:Nat.gcd a b=1):G3 n a 0 0 0 0 0 0 0 b 0 0 0 0 0 0 0=some 0:=by
 unfold G3;rw[nE (by omega),ah]
 dsimp only
 rw[G8 (by omega) ha hb,ah]
 dsimp only
 have hla:=mX a;have hlb:=mX b;obtain⟨r,r1,r2,r3⟩:=vH (n:=n) (jw hb);rw[r1,ah,aO (by omega)]
 obtain⟨g,g1,g2⟩:=yT (n:=n) (jw ha) (jw hb) (by omega) (by omega) (by omega) (by rw[Int.natAbs_natCast]; omega)
 rw[Int.natAbs_natCast,Int.natAbs_natCast,hg] at g2;obtain⟨_,rfl⟩:=g2.inj (show Lg ((1:Nat):Int) false [1] from np)
 rw[g1,ah]
 dsimp only
 obtain⟨u,m,m1,m2⟩:=Fj (n:=n) np np (by simp) (by simp) (by simp; omega)
 obtain⟨q,q1,q2,q3⟩:=vH (n:=n) m2;have hc:Pd n false [1] false [1]=some q:=by
  unfold Pd;rw[m1,ah]
  dsimp only
  rw[q1,ah]
 rw[hc,ah,q3.2 (by omega)]; rfl
theorem tR {T h:Nat} (hT:T≠0):(fq T h).1≤h∧(fq T h).2≤T∧(fq T h).2≠0∧Nat.gcd (fq T h).1 (fq T h).2=1∧(fq T h).1*T=h*(fq T h).2:=by
 have g0:0<Nat.gcd h T:=Nat.gcd_pos_of_pos_right h (Nat.pos_of_ne_zero hT);have e1:=Nat.div_mul_cancel (Nat.gcd_dvd_left h T);have e2:=Nat.div_mul_cancel (Nat.gcd_dvd_right h T);refine⟨Nat.div_le_self _ _,Nat.div_le_self _ _,fun e=>?_,Nat.coprime_div_gcd_div_gcd g0,?_⟩
 ·have e':T/Nat.gcd h T=0:=e;rw[e',Nat.zero_mul] at e2;exact hT e2.symm
 ·show h/Nat.gcd h T*T=h*(T/Nat.gcd h T)
  generalize Nat.gcd h T=g at *;generalize h/g=a at *;generalize T/g=b at *;subst e1 e2;simp only[Nat.mul_comm,Nat.mul_left_comm]
def tl (T:Nat) (l:List Nat):List Sh:=l.map fun h=>sh (fq T h)
theorem yF (hn:18446744073709551616<n) {T:Nat} (hT:T≠0) (hT64:T<18446744073709551616) {l:List Nat} (hl:∀h ∈ l,h<18446744073709551616) (hlen:l.length≤1000):K7 n (tl T l)=some true:=by
 have hL:∀j i m,i+j=l.length→j<m→bV (uV n (tl T l)) m (i:Int)=some (.inr ()):=by
  intro j
  induction j with
  | zero =>
   intro i m hi hm;obtain⟨m,rfl⟩:∃m',m=m'+1:=⟨m-1,by omega⟩
   refine bH ?_;unfold uV;rw[aO (by unfold tl; rw[List.length_map]; omega)]
  | succ j ih =>
   intro i m hi hm;obtain⟨m,rfl⟩:∃m',m=m'+1:=⟨m-1,by omega⟩
   have hi':i<l.length:=by omega
   have hle:(tl T l).length=l.length:=by unfold tl; rw[List.length_map]
   obtain⟨x,e2⟩:∃x,l[i]? = some x:=⟨l[i],by simp⟩
   have hx:=hl x (List.mem_of_getElem? e2);obtain⟨k1,k2,k3,k4,_⟩:=tR (h:=x) hT;have e3:(tl T l)[i]? = some (sh (fq T x)):=by unfold tl; rw[List.getElem?_map,e2]; rfl
   have hv:E2 n (fq T x).1 0 0 0 0 0 0 0 (fq T x).2 0 0 0 0 0 0 0=some true:=by
    unfold E2;rw[MG hn (by omega) (by omega) k3 k4,ah]; rfl
   have st:uV n (tl T l) (i:Int)=some (.inl ((i+1:Nat):Int)):=by
    unfold uV;rw[aV (by omega),aD (by omega),aS,Int.toNat_natCast,e3,ah]
    show ob (E2 n (fq T x).1 0 0 0 0 0 0 0 (fq T x).2 0 0 0 0 0 0 0) _=_
    rw[hv,ah,Bool.not_true,dt,bt (by omega)]
   rw[bm st];exact ih (i+1) m (by omega) (by omega)
 unfold K7;rw[show(0:Int)=((0:Nat):Int) from rfl,hL l.length 0 n (by omega) (by omega)]
 rfl
theorem N9 (hn:40<n):Ix n 0=some (false,[],false,[1]):=by
 unfold Ix;rw[rv (by omega),ah]
 dsimp only
 unfold Ju;rw[nE (by omega),ah]
 rfl
theorem Pn (hn:2 ^ 200<n) {T S h:Nat} (hT:T≠0) (hT64:T<18446744073709551616) (hS:S<18446744073709551616*1024) (hh:h<18446744073709551616) {l k:List Nat} (hl:Lg (((fq T S).1:Nat):Int) false l) (hk:Lg (((fq T S).2:Nat):Int) false k) :
  ∃l' k',HF n false l false k false (ul (fq T h).1) false (ul (fq T h).2)=some (false,l',false,k')∧Lg (((fq T (S+h)).1:Nat):Int) false l'∧Lg (((fq T (S+h)).2:Nat):Int) false k':=by
 obtain⟨s4,s2,s3,s5,s1⟩:=tR (h:=S) hT;obtain⟨h6,h7,h0,h8,h1⟩:=tR (h:=h) hT;have hbig:(2:Nat) ^ 200=1606938044258990275541962092341162602522202993782792835301376:=by decide
 have w1:wp 1=18446744073709551616:=rfl;have w2:wp 2=340282366920938463463374607431768211456:=by decide
 have ll:l.length≤2:=hl.lu (by rw[Int.natAbs_natCast,w2]; omega)
 have lk:k.length≤1:=hk.lu (by rw[Int.natAbs_natCast,w1]; omega)
 have la:=mX (fq T h).1;have lb:=mX (fq T h).2;generalize hN:(fq T S).1=N at *;generalize hD:(fq T S).2=D at *;generalize ha:(fq T h).1=a at *;generalize hb:(fq T h).2=b at *;have ga:=jw (v:=a) (by omega)
 have gb:=jw (v:=b) (by omega)
 obtain⟨u0,m1,p1,q0⟩:=ou (n:=n) hl gb (by omega) (by omega) (by omega)
 obtain⟨u1,m2,p2,q1⟩:=ou (n:=n) ga hk (by omega) (by omega) (by omega)
 rw[←Int.natCast_mul] at q0 q1;have h2:=q0.un;have h3:=q1.un;subst h2 h3;have b0:N*b<wp 3:=by
  have:N*b≤(18446744073709551616*1024)*18446744073709551616:=Nat.mul_le_mul (by omega) (by omega)
  have:wp 3=6277101735386680763835789423207666416102355444464034512896:=by decide
  omega
 have b1:a*D<wp 3:=by
  have:a*D≤18446744073709551616*18446744073709551616:=Nat.mul_le_mul (by omega) (by omega)
  have:wp 3=6277101735386680763835789423207666416102355444464034512896:=by decide
  omega
 have Mi:D*b<wp 3:=by
  have:D*b≤18446744073709551616*18446744073709551616:=Nat.mul_le_mul (by omega) (by omega)
  have:wp 3=6277101735386680763835789423207666416102355444464034512896:=by decide
  omega
 have l1:m1.length≤3:=q0.lu (by rw[Int.natAbs_natCast]; exact b0)
 have l2:m2.length≤3:=q1.lu (by rw[Int.natAbs_natCast]; exact b1)
 obtain⟨u3,m3,p3,q2⟩:=vv (n:=n) q0 q1 (by omega) (by omega) (by omega)
 rw[←Int.natCast_add] at q2;have h4:=q2.un;subst h4;have l3:m3.length≤4:=q2.lu (by
  rw[Int.natAbs_natCast];have:wp 4=115792089237316195423570985008687907853269984665640564039457584007913129639936:=by decide
  have:wp 3=6277101735386680763835789423207666416102355444464034512896:=by decide
  omega)
 obtain⟨u4,m4,p4,q4⟩:=ou (n:=n) hk gb (by omega) (by omega) (by omega)
 rw[←Int.natCast_mul] at q4;have h5:=q4.un;subst h5;have l4:m4.length≤3:=q4.lu (by rw[Int.natAbs_natCast]; exact Mi)
 have hDb:D*b≠0:=Nat.mul_ne_zero s3 h0;obtain⟨l',k',f0,f1,f2⟩:=IV (n:=n) (by omega) (by
  have:wp 3=6277101735386680763835789423207666416102355444464034512896:=by decide
  have:D*b≤18446744073709551616*18446744073709551616:=Nat.mul_le_mul (by omega) (by omega)
  omega) hDb q2 q4 (by omega) (by omega)
 have hu:(N*b+a*D)*T=(S+h)*(D*b):=by
  have t0:N*b*T=S*(D*b):=by
   rw[Nat.mul_right_comm,s1,Nat.mul_assoc]
  have t1:a*D*T=h*(D*b):=by
   rw[Nat.mul_right_comm,h1,Nat.mul_assoc,Nat.mul_comm b D]
  rw[Nat.add_mul,Nat.add_mul,t0,t1]
 obtain⟨v0,v1⟩:=Bd hDb hT hu;refine⟨l',k',?_,?_,?_⟩
 ·unfold HF;rw[p1,ah]
  dsimp only
  rw[p2,ah]
  dsimp only
  rw[p3,ah]
  dsimp only
  rw[p4,ah]
  dsimp only
  rw[f0,ah]
 ·show Lg (((S+h)/Nat.gcd (S+h) T:Nat):Int) false l'
  rw[←v0]; exact f1
 ·show Lg ((T/Nat.gcd (S+h) T:Nat):Int) false k'
  rw[←v1]; exact f2
theorem Mg (hn:2 ^ 200<n) {T m:Nat} (hT:T≠0) (hT64:T<18446744073709551616) {l:List Nat} (hl:∀h ∈ l,h≤T) (hlen:l.length≤200) (hm:l.sum=T*m) (h1:m<18446744073709551616) :
  Pq n (tl T l)=some (m,0,0,0,0,0,0,0,1,0,0,0,0,0,0,0,0):=by
 have hbig:(2:Nat) ^ 200=1606938044258990275541962092341162602522202993782792835301376:=by decide
 have hle:(tl T l).length=l.length:=by unfold tl; rw[List.length_map]
 have htake:∀i,i≤l.length→(l.take i).sum≤i*T:=by
  intro i
  induction i with
  | zero=>intro _; simp
  | succ i ih =>
   intro hi;obtain⟨x,e0⟩:∃x,l[i]? = some x:=⟨l[i],by simp⟩
   have:=hl x (List.mem_of_getElem? e0);rw[List.take_add_one,e0,Option.toList_some,List.sum_append,List.sum_singleton,Nat.add_mul];have:=ih (by omega)
   omega
 have hL:∀j i m a b,i+j=l.length→j<m→Lg (((fq T (l.take i).sum).1:Nat):Int) false a→Lg (((fq T (l.take i).sum).2:Nat):Int) false b →
   ∃a' b',bV (uD n (tl T l)) m (false,a,false,b,(i:Int))=some (false,a',false,b')∧Lg (((fq T l.sum).1:Nat):Int) false a'∧Lg (((fq T l.sum).2:Nat):Int) false b':=by
  intro j
  induction j with
  | zero =>
   intro i m a b hi hm ha hb;obtain⟨m,rfl⟩:∃m',m=m'+1:=⟨m-1,by omega⟩
   rw[List.take_of_length_le (by omega)] at ha hb
   refine⟨a,b,bH ?_,ha,hb⟩;unfold uD
   dsimp only
   rw[aO (by omega)]
  | succ j ih =>
   intro i m a b hi hm ha hb;obtain⟨m,rfl⟩:∃m',m=m'+1:=⟨m-1,by omega⟩
   have hi':i<l.length:=by omega
   obtain⟨x,e0⟩:∃x,l[i]? = some x:=⟨l[i],by simp⟩
   have hx:=hl x (List.mem_of_getElem? e0);have hs:=htake i (by omega)
   have h2:i*T≤200*T:=Nat.mul_le_mul_right _ (by omega)
   obtain⟨k1,k2,_⟩:=tR (h:=x) hT;have e1:(tl T l)[i]? = some (sh (fq T x)):=by unfold tl; rw[List.getElem?_map,e0]; rfl
   obtain⟨l',k',f0,f1,f2⟩:=Pn hn hT hT64 (show(l.take i).sum<18446744073709551616*1024 by omega) (show x<18446744073709551616 by omega) ha hb
   have h0:(l.take (i+1)).sum=(l.take i).sum+x:=by rw[List.take_add_one,e0,Option.toList_some,List.sum_append,List.sum_singleton]
   have st:uD n (tl T l) (false,a,false,b,(i:Int))=some (.inl (false,l',false,k',((i+1:Nat):Int))):=by
    unfold uD
    dsimp only
    rw[aV (by omega),aD (by omega),aS,Int.toNat_natCast,e1,ah]
    show ob (vw n (fq T x).1 0 0 0 0 0 0 0 (fq T x).2 0 0 0 0 0 0 0) _=_
    rw[G8 (by omega) (by omega) (by omega),ah]
    dsimp only
    rw[f0,ah]
    dsimp only
    rw[bt (by omega)]
   rw[bm st];exact ih (i+1) m l' k' (by omega) (by omega) (by rw[h0]; exact f1) (by rw[h0]; exact f2)
 have z1:fq T 0=(0,1):=by unfold fq; rw[Nat.gcd_zero_left,Nat.zero_div,Nat.div_self (Nat.pos_of_ne_zero hT)]
 obtain⟨a,b,g2,g0,g1⟩:=hL l.length 0 n [] [1] (by omega) (by omega) (by rw[List.take_zero,List.sum_nil,z1]; exact Lg.zero) (by rw[List.take_zero,List.sum_nil,z1]; exact np)
 have z2:fq T (T*m)=(m,1):=by
  unfold fq;have e:Nat.gcd (T*m) T=T:=by rw[Nat.gcd_comm]; exact Nat.gcd_eq_left (Nat.dvd_mul_right T m)
  rw[e,Nat.mul_div_cancel_left _ (Nat.pos_of_ne_zero hT),Nat.div_self (Nat.pos_of_ne_zero hT)]
 rw[hm,z2] at g0 g1;unfold Pq;rw[aO (by omega),yF (by omega) hT hT64 (fun h hh=>by have:=hl h hh; omega) (by omega),ah,Bool.not_true,dt,N9 (by omega),ah]
 dsimp only
 rw[show(0:Int)=((0:Nat):Int) from rfl,g2,ah]
 dsimp only
 unfold Lq;rw[mT (by omega) h1 g0,ah]
 dsimp only
 rw[mT (by omega) (show(1:Nat)<18446744073709551616 by decide) g1]; rfl
theorem O5 (hn:18446744073709551616<n) {T h:Nat} (hT:T≠0) (hT64:T<18446744073709551616) (hh:h≤T):OC n (fq T h).1 0 0 0 0 0 0 0 (fq T h).2 0 0 0 0 0 0 0=some (if h=0 then 0 else 1,0):=by
 obtain⟨h1,h2,h3,h4,h5⟩:=tR (h:=h) hT;have hz:(fq T h).1=0↔h=0:=by
  constructor
  ·intro e;rw[e,Nat.zero_mul] at h5;rcases Nat.mul_eq_zero.1 h5.symm with e|e
   ·exact e
   ·exact absurd e h3
  ·intro e;have:(fq T h).1≤0:=by rw[e] at h1; rw[e]; exact h1
   omega
 have hv:=yF (n:=n) hn hT hT64 (l:=[h,h]) (fun x hx=>by simp at hx; omega) (by simp)
 have hv':K7 n [(sh (fq T h)),(sh (fq T h))]=some true:=hv;unfold OC;have e:∀{β:Type} (f:Bool→Option β),ob (K7 n [((fq T h).1,0,0,0,0,0,0,0,(fq T h).2,0,0,0,0,0,0,0),((fq T h).1,0,0,0,0,0,0,0,(fq T h).2,0,0,0,0,0,0,0)]) f=f true:=fun f=>by
  have:K7 n [((fq T h).1,0,0,0,0,0,0,0,(fq T h).2,0,0,0,0,0,0,0),((fq T h).1,0,0,0,0,0,0,0,(fq T h).2,0,0,0,0,0,0,0)]=some true:=hv';rw[this]; rfl
 rw[e,Bool.not_true,dt,G8 (by omega) (by omega) (by omega),ah]
 dsimp only
 rw[ah]
 dsimp only
 unfold Qi;have gs:=jw (v:=(fq T h).1) (by omega)
 by_cases hh0:h=0
 ·have:(fq T h).1=0:=hz.2 hh0;rw[this,if_pos hh0]; rfl
 ·have hne:(fq T h).1≠0:=fun e=>hh0 (hz.1 e);rw[sK hne,if_neg hh0]; rfl
theorem yO (hn:18446744073709551616<n) {m:Nat} (hm:m<1000000):NA n (m:Int) 1=some (m,0,0,0,0,0,0,0,1,0,0,0,0,0,0,0,0):=by
 have e:∀k:Nat,k<1000000→M5 n (k:Int)=some (k,0,0,0,0,0,0,0):=fun k hk=>by
  unfold M5;have hu:ui .u64 (k:Int)=k:=by
   unfold ui;rw[Int.emod_eq_of_lt (by omega) (by rw[MV]; omega)]
   exact Int.toNat_natCast k
  rw[aO (by omega),ah,hu]; rfl
 unfold NA;rw[e m hm,ah]
 dsimp only
 rw[show(1:Int)=((1:Nat):Int) from rfl,e 1 (by decide),ah]
 dsimp only
 rw[Pa hn (by omega) (by decide) (by decide),Nat.gcd_one_right,Nat.div_one,ah]
end
end Go.Proofs.YtookeaakpiefjaaGreatDoor
end
